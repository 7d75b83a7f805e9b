/-
  The walk of the reference's Area. Own text.
-/
import Derived.Test.YtnnnihjagjfkdaaGreatDoorRefM
namespace Go.Proofs.YtnnnihjagjfkdaaGreatDoor
open Go.RowKit
set_option linter.unusedVariables false
set_option maxRecDepth 100000 in
set_option maxHeartbeats 8000000 in
theorem area_any (s : ByteArray) (w : World) (hs : s.size ≤ 65536) :
    Calls Tryz.prog 26 #[.string s] w (RetArea s.data.toList w) := by
  obtain ⟨S, hS⟩ : ∃ S, S = s.data.toList := ⟨_, rfl⟩
  have hSl : S.length = s.size := by rw [hS]; simp
  obtain ⟨ps, hps⟩ : ∃ ps, ps = splitV 10 S := ⟨_, rfl⟩
  have HLN : Hid (Lines S ps) := ⟨hps⟩
  have hp0 : 0 < ps.length := by rw [hps]; exact List.length_pos_iff.2 (splitV_ne 10 S)
  have HPL : Hid (∀ x ∈ ps, x.length ≤ 65536) := fun x hx => by
    rw [hps] at hx
    have := splitV_le 10 S x hx
    omega
  have HPN : Hid (ps.length ≤ 65537) := by
    show _ ≤ _
    have h : ∀ l : List UInt8, (splitV 10 l).length ≤ l.length + 1 := fun l => by
      induction l with
      | nil => simp [splitV]
      | cons b r ih =>
        by_cases e : b = 10
        · rw [e, splitV_hit, List.length_cons, List.length_cons]; omega
        · cases e2 : splitV 10 r with
          | nil => exact absurd e2 (splitV_ne 10 r)
          | cons y ys => rw [splitV_miss e e2]; rw [e2] at ih; simp only [List.length_cons] at ih ⊢; omega
    have := h S
    rw [hps]; omega
  obtain ⟨W1, hW1⟩ : ∃ W1, W1 = w.alloc (.cells #[.slice none 0 0, .int .i64 0, .int .i64 0, .int .i64 0] 69) := ⟨_, rfl⟩
  have hb1 : Below w.heap.size w W1 := by rw [hW1]; exact balloc (Below.refl _ w) _
  have hz1 : W1.heap.size = w.heap.size + 1 := by rw [hW1]; exact World.size_alloc _ _
  have ht2 : FTab (fun v : Value => v) W1 w.heap.size 4 (arF (.slice none 0 0) 0 0 0) := by rw [hW1]; exact arF_new w _ 0 0 0
  have HPA : Hid (Calls Tryz.prog 41 #[.string s, .int .u8 10] W1 (RetParts ps W1)) := by
    have h := parts_any s 10 W1 (by omega)
    rw [← hS, ← hps] at h
    exact h
  have HB1 := Lib.hid hb1
  have HT2 := Lib.hid ht2
  have HW1 := Lib.hid hW1
  have HSS := Lib.hid hS
  rw [← hS]
  clear hS hps hb1 ht2 hW1
  go_enter Tryz.func26, Tryz.ntmps26
  go_wp2_with fail
  rw [← HW1.out]
  refine HPA.out.mono ?_
  rintro e w2 ⟨v2, rfl, hv2, hb2⟩
  obtain ⟨g, cap, rfl, hcap, hg0, hg1, hf2⟩ := own_row hv2 hp0
  obtain ⟨W3, hW3⟩ : ∃ W3, W3 = w2.alloc (.cells #[.slice none 0 0, .int .i64 0, .int .i64 0, .int .i64 0] 69) := ⟨_, rfl⟩
  have hb3 : Below w2.heap.size w2 W3 := by rw [hW3]; exact balloc (Below.refl _ w2) _
  have hb2s := hb2.size
  have HA3 : Hid (ArAt w W3 w.heap.size w2.heap.size (.slice none 0 0) [] 0 0 0) :=
    ⟨bthen (bthen HB1.out hb2) hb3, (HT2.out.below hb2 (by omega)).below hb3 (by omega), by rw [hW3]; exact arF_new w2 _ 0 0 0, Own.nil _ _ _ _ _, Nat.le_refl _, by omega, by omega, by simp [Value.ownBlock], by simp [Value.ownBlock]⟩
  have HF3 := Lib.hid (hf2.below hb3)
  obtain ⟨np, hnp⟩ : ∃ np, np = ps.length := ⟨_, rfl⟩
  have HNP := Lib.hid hnp
  rw [← hnp] at hp0 hcap
  rw [← hnp]
  obtain ⟨nl, hnl⟩ : ∃ nl, np = nl + 1 := ⟨np - 1, by omega⟩
  have HNL : Hid (ps.length = nl + 1) := by show _ = _; omega
  have enl : (np : Int) - 1 = (nl : Int) := by omega
  have nl0 : (0 : Int) ≤ (nl : Int) := by omega
  have nlc : (nl : Int) ≤ (cap : Int) := by omega
  have hpl2 : ps.length ≤ 65537 := HPN.out
  have hnl2 : ps.length = nl + 1 := HNL.out
  have nls : (nl : Int) ≤ 100000 := by omega
  have npi : (np : Int) ≤ 100000 := by omega
  have HW3 := Lib.hid hW3
  clear hv2 hb2 hf2 hb3 hW3 HT2 HPA hnp hnl hb2s hpl2 hnl2
  by_cases h0 : nl = 0
  · have e0 : ((nl : Int) == 0) = true := by rw [beq_iff_eq]; omega
    have HNO : Hid (begunV S = none) := head_no HLN.out (by rw [HNL.out]; omega) (fun h => by have := h.1; rw [HNL.out] at this; omega)
    obtain ⟨p0, p1, p2, p3⟩ := HA3.out.c2
    obtain ⟨q0, q1, q2, q3⟩ := HA3.out.c5
    clear h0
    go_upto_region 4 with fail
    rw [← HW3.out]
    have f2 := HA3.out.t2.fz
    have HRT := Lib.hid HA3.out.ret
    repeat (first | go_values | go_skip | go_guarded | go_step | go_upon)
    obtain ⟨W9, hW9⟩ : ∃ W9, W9 = retW W3 w.heap.size (.slice none 0 0) 0 0 0 := ⟨_, rfl⟩
    rw [← hW9] at HRT
    unfold retW at hW9
    rw [← hW9]
    obtain ⟨r0, r1, r2, r3, r4, r5⟩ := HRT.out
    clear hW9
    refine bodyPost_ret (v := .tuple #[.agg #[.slice none 0 0, .int .i64 0, .int .i64 0, .int .i64 0], .bool false]) (by simp only [results, areaRes]; go_simp) rfl ?_
    exact ⟨r0, .inl ⟨HNO.out, 0, 0, 0, rfl⟩⟩
  · have hnl1 : 1 ≤ nl := by omega
    have e0 : ((nl : Int) == 0) = false := by rw [beq_eq_false_iff_ne]; omega
    have nlp : (0 : Int) < (nl : Int) := by omega
    have nlN : 0 < nl := by omega
    have nlz : nl ≠ 0 := by omega
    obtain ⟨l0, hl0⟩ : ∃ l0, l0 = ps.getD 0 [] := ⟨_, rfl⟩
    have hps0 : ps[0]'(by rw [HNL.out]; omega) = l0 := by rw [hl0, List.getD_eq_getElem?_getD, List.getElem?_eq_getElem (by rw [HNL.out]; omega)]; rfl
    have hl0s : l0.length ≤ 65536 := by rw [← hps0]; exact HPL.out _ (List.getElem_mem _)
    obtain ⟨b9, off9, e9, c9⟩ := HF3.out.tx (i := 0) (by rw [HNL.out]; omega)
    simp only [Option.some.injEq, Addr.mk.injEq, and_true] at e9
    obtain ⟨rfl, rfl⟩ := e9
    rw [hps0, Nat.zero_add] at c9
    obtain ⟨hw, hhw⟩ : ∃ hw, hw = wordsV l0 := ⟨_, rfl⟩
    have HHD : Hid (Calls Tryz.prog 41 #[.string (strB l0), .int .u8 32] W3 (RetParts hw W3)) := by
      have h := parts_any (strB l0) 32 W3 (by rw [strB_size]; omega)
      rw [splitV_words] at h
      rw [hhw]
      exact h
    have hwn : 0 < hw.length := by rw [hhw]; exact List.length_pos_iff.2 (wordsV_ne _)
    have HWL : Hid (∀ x ∈ hw, x.length ≤ 65536) := fun x hx => by
      rw [hhw] at hx
      have := wordsV_le l0 x hx
      omega
    have hwl : hw.length ≤ 65537 := by rw [hhw]; have := wordsV_len l0; omega
    have HNO : Hid (¬ HeadOk ps hw → begunV S = none) := fun h => head_no HLN.out (by rw [HNL.out]; omega) (fun e => h (by rw [hhw, hl0]; exact e.2))
    have HHW := Lib.hid hhw
    have HL0 := Lib.hid hl0
    clear h0 hps0 hhw hl0
    go_upto_region 4 with fail
    rw [← HW3.out]
    go_wp2_with fail
    refine HHD.out.mono ?_
    rintro e w4 ⟨v4, rfl, hv4, hb4⟩
    obtain ⟨gh, caph, rfl, hcaph, hgh0, hgh1, hf4⟩ := own_row hv4 hwn
    have HA4 := Lib.hid (HA3.out.below hb4)
    have HF4 := Lib.hid hf4
    have HFL4 := Lib.hid (HF3.out.below hb4)
    have c9 := keepCell hb4 c9
    obtain ⟨nh, hnh⟩ : ∃ nh, nh = hw.length := ⟨_, rfl⟩
    have HNH := Lib.hid hnh
    rw [← hnh] at hwn hcaph hwl
    rw [← hnh]
    have hG4 : g < w4.heap.size := Nat.lt_of_lt_of_le hg1 (by have h1 := hb4.size; have h2 : w2.heap.size ≤ W3.heap.size := by (rw [HW3.out, World.size_alloc]; omega)
                                                              omega)
    clear hv4 hb4 hf4 hnh HHD HA3 HF3
    have f2 := HA4.out.t2.fz
    obtain ⟨p0, p1, p2, p3⟩ := HA4.out.c2
    obtain ⟨q0, q1, q2, q3⟩ := HA4.out.c5
    by_cases h5 : nh = 5
    · subst h5
      have hj : ∀ j (hj5 : j < 5), w4.cell? ⟨gh, j, none⟩ = some (.string (strB (hw.getD j []))) ∧ (hw.getD j []).length ≤ 65536 := fun j hj5 => by
        have hjl : j < hw.length := by rw [← HNH.out]; omega
        obtain ⟨b8, off8, e8, c8⟩ := HF4.out.tx hjl
        simp only [Option.some.injEq, Addr.mk.injEq, and_true] at e8
        obtain ⟨rfl, rfl⟩ := e8
        rw [Nat.zero_add] at c8
        rw [List.getD_eq_getElem?_getD, List.getElem?_eq_getElem hjl]
        exact ⟨c8, HWL.out _ (List.getElem_mem _)⟩
      obtain ⟨x0, hx0⟩ : ∃ x0, x0 = hw.getD 0 [] := ⟨_, rfl⟩
      obtain ⟨x1, hx1⟩ : ∃ x1, x1 = hw.getD 1 [] := ⟨_, rfl⟩
      obtain ⟨x2, hx2⟩ : ∃ x2, x2 = hw.getD 2 [] := ⟨_, rfl⟩
      obtain ⟨x3, hx3⟩ : ∃ x3, x3 = hw.getD 3 [] := ⟨_, rfl⟩
      obtain ⟨h0, hx0s⟩ := hj 0 (by omega)
      obtain ⟨h1, hx1s⟩ := hj 1 (by omega)
      obtain ⟨h2, hx2s⟩ := hj 2 (by omega)
      obtain ⟨h3, hx3s⟩ := hj 3 (by omega)
      rw [← hx0] at h0
      rw [← hx1] at h1 hx1s
      rw [← hx2] at h2 hx2s
      rw [← hx3] at h3 hx3s
      have HX0 := Lib.hid hx0
      have HX1 := Lib.hid hx1
      have HX2 := Lib.hid hx2
      have HX3 := Lib.hid hx3
      clear hj hx0 hx1 hx2 hx3 hx0s
      by_cases hbg : x0 = beginB
      · have t0 : ((strB x0).toList == [98, 101, 103, 105, 110]) = true := strEq.2 hbg
        have HBG := Lib.hid hbg
        have HWO : Hid (∀ W, Below w4.heap.size w4 W → Calls Tryz.prog 42 #[.string (strB l0), .string (strB x1), .int .i64 0] W (RetWO (wordsOfV l0 x1 0) W)) := fun W _ => wordsOf_any (strB l0) (strB x1) 0 W (by rw [strB_size]; omega) (by rw [strB_size]; omega) (by omega)
        clear hbg
        go_upto_region 7 with fail
        have d0 : w4.drew.cell? ⟨gh, 0, none⟩ = some (.string (strB x0)) := h0
        have d1 : w4.drew.cell? ⟨gh, 1, none⟩ = some (.string (strB x1)) := h1
        have d9 : w4.drew.cell? ⟨g, 0, none⟩ = some (.string (strB l0)) := c9
        simp only [World.drew] at d0 d1 d9
        go_still_tail 16, (by kernel_rfl)
        change wpList _ _ _ _ _ w4.drew
        have HWD := Lib.hid (HWO.out w4.drew (Below.refl _ _).drew)
        have HA5 := Lib.hid (HA4.out.drewN 1)
        clear d0 d1 d9 HWO f2 p0 p1 p2 p3 q0 q1 q2 q3 h0
        have h1 : w4.drew.cell? ⟨gh, 1, none⟩ = some (.string (strB x1)) := h1
        have h2 : w4.drew.cell? ⟨gh, 2, none⟩ = some (.string (strB x2)) := h2
        have h3 : w4.drew.cell? ⟨gh, 3, none⟩ = some (.string (strB x3)) := h3
        have HA5 : Hid (ArAt w w4.drew w.heap.size w2.heap.size (.slice none 0 0) [] 0 0 0) := HA5
        have HF5 : Hid (Flat w4.drew 1 encT (some ⟨g, 0, none⟩) ps) := HFL4.out.below (Below.refl _ _).drew
        have hG5 : g < w4.drew.heap.size := hG4
        have hH5 : gh < w4.drew.heap.size := hgh1
        obtain ⟨w5, hw5⟩ : ∃ w5, w5 = w4.drew := ⟨_, rfl⟩
        rw [← hw5] at HWD HA5 h1 h2 h3 HF5 hG5 hH5
        rw [← hw5]
        clear hw5 HA4 HF4 HFL4 c9 hgh1
        go_wp2_with fail
        refine HWD.out.mono ?_
        rintro e w6 ⟨hb6, (⟨hr, rfl⟩ | ⟨ws, gw, capw, hr, rfl, hgw, hgw2, hw1, hfw⟩)⟩
        · have hno : begunV S = none := HNO.out (fun h => h.rc (by rw [← HX1.out, ← HL0.out]; exact hr))
          have HNN := Lib.hid hno
          have HA6 := Lib.hid (HA5.out.below hb6)
          clear hno hb6 hr HA5 h1 h2 h3 HF5 HWD
          have f2 := HA6.out.t2.fz
          obtain ⟨p0, p1, p2, p3⟩ := HA6.out.c2
          obtain ⟨q0, q1, q2, q3⟩ := HA6.out.c5
          have HRT := Lib.hid HA6.out.ret
          have n1 := nil_eq
          go_upto_region 8 with fail
          repeat (first | go_values | go_skip | go_guarded | go_step | go_upon)
          obtain ⟨W9, hW9⟩ : ∃ W9, W9 = retW w6 w.heap.size (.slice none 0 0) 0 0 0 := ⟨_, rfl⟩
          rw [← hW9] at HRT
          unfold retW at hW9
          rw [← hW9]
          obtain ⟨r0, r1, r2, r3, r4, r5⟩ := HRT.out
          clear hW9
          refine bodyPost_ret (v := .tuple #[.agg #[.slice none 0 0, .int .i64 0, .int .i64 0, .int .i64 0], .bool false]) (by simp only [results, areaRes]; go_simp) rfl ?_
          exact ⟨r0, .inl ⟨HNN.out, 0, 0, 0, rfl⟩⟩
        · have HRC : Hid (wordsOfV (ps.getD 0 []) (hw.getD 1 []) 0 ≠ none) := by show _ ≠ _; rw [← HX1.out, ← HL0.out, hr]; simp
          have HA6 := Lib.hid (HA5.out.below hb6)
          have h1 := keepCell hb6 h1
          have h2 := keepCell hb6 h2
          have h3 := keepCell hb6 h3
          have HF6 := Lib.hid (HF5.out.below hb6)
          have hG6 : g < w6.heap.size := Nat.lt_of_lt_of_le hG5 hb6.size
          have hH6 : gh < w6.heap.size := Nat.lt_of_lt_of_le hH5 hb6.size
          have HBI3 := Lib.hid (fun W => big_any (strB x3) W (by rw [strB_size]; omega))
          have HBI1 := Lib.hid (fun W => big_any (strB x1) W (by rw [strB_size]; omega))
          have HBI2 := Lib.hid (fun W => big_any (strB x2) W (by rw [strB_size]; omega))
          obtain ⟨b1, hb1e⟩ : ∃ b1, b1 = bigV x1 := ⟨_, rfl⟩
          obtain ⟨b2, hb2e⟩ : ∃ b2, b2 = bigV x2 := ⟨_, rfl⟩
          obtain ⟨b3, hb3e⟩ : ∃ b3, b3 = bigV x3 := ⟨_, rfl⟩
          have HB1E := Lib.hid hb1e
          have HB2E := Lib.hid hb2e
          have HB3E := Lib.hid hb3e
          have HBI1 : Hid (∀ W, Calls Tryz.prog 43 #[.string (strB x1)] W (fun e w' => e = .returned (.int .i64 b1) ∧ W = w')) := fun W => by rw [hb1e]; exact HBI1.out W
          have HBI2 : Hid (∀ W, Calls Tryz.prog 43 #[.string (strB x2)] W (fun e w' => e = .returned (.int .i64 b2) ∧ W = w')) := fun W => by rw [hb2e]; exact HBI2.out W
          have HBI3 : Hid (∀ W, Calls Tryz.prog 43 #[.string (strB x3)] W (fun e w' => e = .returned (.int .i64 b3) ∧ W = w')) := fun W => by rw [hb3e]; exact HBI3.out W
          have n2 := nil_ne
          clear hb6 hr hfw hgw hgw2 hw1 HA5 HWD HF5 hG5 hH5 hb1e hb2e hb3e
          go_wp2_with fail
          refine (HBI3.out _).mono ?_
          rintro e wz ⟨rfl, rfl⟩
          go_upto_region 10 with fail
          obtain ⟨q0, q1, q2, q3⟩ := HA6.out.c5
          have f5 := HA6.out.t5.fz
          have HA7 : Hid (ArAt w ((w6.setCell ⟨w2.heap.size, 1, none⟩ (.int .i64 b1)).setCell ⟨w2.heap.size, 2, none⟩ (.int .i64 b2)).drew w.heap.size w2.heap.size (.slice none 0 0) [] b1 b2 0) := by
            have k1 := HA6.out.setN 1 (by omega) (by omega) b1 (ep' := b1) (nx' := 0) (sz' := 0) (fun j hj => by match j, hj with | 0, _ => rfl | 1, _ => rfl | 2, _ => rfl | 3, _ => rfl)
            have k2 := k1.setN 2 (by omega) (by omega) b2 (ep' := b1) (nx' := b2) (sz' := 0) (fun j hj => by match j, hj with | 0, _ => rfl | 1, _ => rfl | 2, _ => rfl | 3, _ => rfl)
            exact k2.drewN 1
          have hgn : g ≠ w2.heap.size := by omega
          have HF7 : Hid (Flat ((w6.setCell ⟨w2.heap.size, 1, none⟩ (.int .i64 b1)).setCell ⟨w2.heap.size, 2, none⟩ (.int .i64 b2)).drew 1 encT (some ⟨g, 0, none⟩) ps) := ((HF6.out.setFar hgn 1 _).setFar hgn 2 _).below (Below.refl _ _).drew
          have hghn : gh ≠ w2.heap.size := by have h8 : W3.heap.size = w2.heap.size + 1 := by (rw [HW3.out, World.size_alloc])
                                              omega
          have h17 : ((w6.setCell ⟨w2.heap.size, 1, none⟩ (.int .i64 b1)).setCell ⟨w2.heap.size, 2, none⟩ (.int .i64 b2)).drew.cell? ⟨gh, 1, none⟩ = some (.string (strB x1)) := by
            show ((w6.setCell ⟨w2.heap.size, 1, none⟩ (.int .i64 b1)).setCell ⟨w2.heap.size, 2, none⟩ (.int .i64 b2)).cell? ⟨gh, 1, none⟩ = _
            rw [cell_far _ hghn, cell_far _ hghn]
            exact h1
          go_cut [68] from 59 to 67 (fun s68 wx => s68 = .pointer (some ⟨w2.heap.size, 2, none⟩) ∧ wx = ((w6.setCell ⟨w2.heap.size, 1, none⟩ (.int .i64 b1)).setCell ⟨w2.heap.size, 2, none⟩ (.int .i64 b2)).drew)
          case first =>
            go_region_with (first | (go_at_call 43; ((with_reducible refine (HBI1.out _).mono ?_); rintro e wq ⟨rfl, rfl⟩)) | (go_at_call 43; ((with_reducible refine (HBI2.out _).mono ?_); rintro e wq ⟨rfl, rfl⟩)))
            all_goals
              go_wp2_with fail
              go_meet
              exact ⟨rfl, rfl⟩
          case rest =>
            obtain ⟨rfl, rfl⟩ := hcut
            clear HBI1 HBI2 HBI3 h1 h2 h3 HF6 HA6 q0 q1 q2 q3 f5
            generalize ((w6.setCell ⟨w2.heap.size, 1, none⟩ (.int .i64 b1)).setCell ⟨w2.heap.size, 2, none⟩ (.int .i64 b2)).drew = w7 at *
            have HA7 := Lib.hid HA7
            have HF7 := Lib.hid HF7
            obtain ⟨q0, q1, q2, q3⟩ := HA7.out.c5
            have hb3c : b3 ≤ 64 → 0 ≤ b3 → (nl : Int) < b3 + 1 ∨ ¬ (nl : Int) < b3 + 1 := fun _ _ => by omega
            go_upto_region 11 with fail
            go_cut [101] from 69 to 100 (fun s101 wx => ∃ p : Bool, s101 = .bool p ∧ (p = true ↔ (b1 < 1 ∨ 1073741824 < b1 ∨ b2 < 1 ∨ 1073741825 < b2 ∨ b3 < 0 ∨ 64 < b3 ∨ (nl : Int) < b3 + 1)) ∧ w7 = wx)
            case first =>
              clear hb3c
              by_cases c1 : b1 < 1
              · go_wp2_with fail
                go_meet
                exact ⟨true, rfl, ⟨fun _ => .inl c1, fun _ => rfl⟩, rfl⟩
              · by_cases c2 : 1073741824 < b1
                · go_wp2_with fail
                  go_meet
                  exact ⟨true, rfl, ⟨fun _ => .inr (.inl c2), fun _ => rfl⟩, rfl⟩
                · by_cases c3 : b2 < 1
                  · go_wp2_with fail
                    go_meet
                    exact ⟨true, rfl, ⟨fun _ => .inr (.inr (.inl c3)), fun _ => rfl⟩, rfl⟩
                  · by_cases c4 : 1073741825 < b2
                    · go_wp2_with fail
                      go_meet
                      exact ⟨true, rfl, ⟨fun _ => .inr (.inr (.inr (.inl c4))), fun _ => rfl⟩, rfl⟩
                    · by_cases c5 : b3 < 0
                      · go_wp2_with fail
                        go_meet
                        exact ⟨true, rfl, ⟨fun _ => .inr (.inr (.inr (.inr (.inl c5)))), fun _ => rfl⟩, rfl⟩
                      · by_cases c6 : 64 < b3
                        · go_wp2_with fail
                          go_meet
                          exact ⟨true, rfl, ⟨fun _ => .inr (.inr (.inr (.inr (.inr (.inl c6))))), fun _ => rfl⟩, rfl⟩
                        · have b30 : 0 ≤ b3 := by omega
                          have b31 : b3 ≤ 64 := by omega
                          by_cases c7 : (nl : Int) < b3 + 1
                          · go_wp2_with fail
                            go_meet
                            exact ⟨true, rfl, ⟨fun _ => .inr (.inr (.inr (.inr (.inr (.inr c7))))), fun _ => rfl⟩, rfl⟩
                          · go_wp2_with fail
                            go_meet
                            exact ⟨false, rfl, ⟨fun e => (by cases e), fun e => (by omega)⟩, rfl⟩
            case rest =>
              obtain ⟨p, rfl, hp, rfl⟩ := hcut
              have HEQ : Hid (hw.length = 5 ∧ hw.getD 0 [] = beginB ∧ b1 = bigV (hw.getD 1 []) ∧ b2 = bigV (hw.getD 2 []) ∧ b3 = bigV (hw.getD 3 [])) := ⟨HNH.out.symm, by rw [← HX0.out]; exact HBG.out, by rw [← HX1.out]; exact HB1E.out, by rw [← HX2.out]; exact HB2E.out, by rw [← HX3.out]; exact HB3E.out⟩
              have HOK : Hid (¬ (b1 < 1 ∨ 1073741824 < b1 ∨ b2 < 1 ∨ 1073741825 < b2 ∨ b3 < 0 ∨ 64 < b3) → HeadOk ps hw) := fun h => by
                obtain ⟨e1, e2, e3, e4, e5⟩ := HEQ.out
                exact ⟨e1, e2, HRC.out, by omega, by omega, by omega, by omega, by omega, by omega⟩
              clear hb3c
              cases p with
              | true =>
                have hno : begunV S = none := by
                  by_cases hall : b1 < 1 ∨ 1073741824 < b1 ∨ b2 < 1 ∨ 1073741825 < b2 ∨ b3 < 0 ∨ 64 < b3
                  · refine HNO.out (fun h => ?_)
                    obtain ⟨e1, e2, e3, e4, e5⟩ := HEQ.out
                    have := h.e0; have := h.e1; have := h.x0; have := h.x1; have := h.m0; have := h.m1
                    omega
                  · have hd := hp.1 rfl
                    have h7 : (nl : Int) < b3 + 1 := by omega
                    have hh := HOK.out hall
                    rw [HHW.out, HL0.out] at hh
                    have hy := head_yes HLN.out (by rw [HNL.out]; omega) hh
                    cases e : begunV S with
                    | none => rfl
                    | some r =>
                      exfalso
                      rw [hy] at e
                      have hk := keeps_lines HLN.out _ 1 _ _ r (by rw [HNL.out]; omega) rfl e
                      obtain ⟨e1, e2, e3, e4, e5⟩ := HEQ.out
                      rw [HHW.out, HL0.out] at e5
                      rw [← e5, HNL.out] at hk
                      omega
                have HNN := Lib.hid hno
                have f2 := HA7.out.t2.fz
                obtain ⟨p0, p1, p2, p3⟩ := HA7.out.c2
                have HRT := Lib.hid HA7.out.ret
                clear hp hno
                repeat (first | go_values | go_skip | go_guarded | go_step | go_upon)
                obtain ⟨W9, hW9⟩ : ∃ W9, W9 = retW w7 w.heap.size (.slice none 0 0) b1 b2 0 := ⟨_, rfl⟩
                rw [← hW9] at HRT
                unfold retW at hW9
                rw [← hW9]
                obtain ⟨r0, r1, r2, r3, r4, r5⟩ := HRT.out
                clear hW9
                refine bodyPost_ret (v := .tuple #[.agg #[.slice none 0 0, .int .i64 b1, .int .i64 b2, .int .i64 0], .bool false]) (by simp only [results, areaRes]; go_simp) rfl ?_
                exact ⟨r0, .inl ⟨HNN.out, b1, b2, 0, rfl⟩⟩
              | false =>
                have hall : ¬ (b1 < 1 ∨ 1073741824 < b1 ∨ b2 < 1 ∨ 1073741825 < b2 ∨ b3 < 0 ∨ 64 < b3 ∨ (nl : Int) < b3 + 1) := fun h => by
                  have := hp.2 h
                  cases this
                obtain ⟨many, hmany⟩ : ∃ many : Nat, b3 = (many : Int) := ⟨b3.toNat, by omega⟩
                subst hmany
                have HHO : Hid (HeadOk ps hw) := HOK.out (by omega)
                have HMN : Hid (many ≤ 64 ∧ many + 1 ≤ nl) := ⟨by omega, by omega⟩
                have hb12 : 1 ≤ b1 ∧ b1 ≤ 1073741824 ∧ 1 ≤ b2 ∧ b2 ≤ 1073741825 := by omega
                clear hp hall
                obtain ⟨b9, off9, e9, c9⟩ := HF7.out.tx (i := 0) (by rw [HNL.out]; omega)
                simp only [Option.some.injEq, Addr.mk.injEq, and_true] at e9
                obtain ⟨rfl, rfl⟩ := e9
                rw [show ps[0]'(by rw [HNL.out]; omega) = l0 by rw [HL0.out, List.getD_eq_getElem?_getD, List.getElem?_eq_getElem (by rw [HNL.out]; omega)]; rfl, Nat.zero_add] at c9
                have f5 := HA7.out.t5.fz
                have hz0 : ((strB l0).size : Int) ≤ 65536 := by rw [strB_size]; omega
                have hz1 : (0 : Int) ≤ ((strB l0).size : Int) := by omega
                have nl1c : (1 : Int) ≤ (nl : Int) := by omega
                go_upto_region 16 with fail
                obtain ⟨nr, hnr⟩ : ∃ nr, nr = nl - 1 := ⟨_, rfl⟩
                rw [← hnr]
                have HNR : Hid (ps.length = nr + 2) := by show _ = _; have := HNL.out; omega
                have HMR : Hid (many ≤ nr ∧ many ≤ 64) := ⟨by have := HMN.out; omega, HMN.out.1⟩
                have nrs : nr ≤ 100000 := by omega
                have many64 : many ≤ 64 := HMN.out.1
                have HX1E : Hid (Lib.itoa b1 = x1) := by
                  obtain ⟨e1, e2, e3, e4, e5⟩ := HEQ.out
                  show _ = _
                  rw [e3, HX1.out]
                  exact head_itoa (by omega)
                have HST : Hid (AreaI S ps b1 many 0 (emptyQ b1 b2) ⟨tailV ps 1, b1, 1, (l0.length : Int) + 1⟩ 0 ∧ ArM w (w7.setCell ⟨w2.heap.size, 3, none⟩ (.int .i64 ((strB l0).size + 1))) w.heap.size w2.heap.size g gh (.slice none 0 0) ((emptyQ b1 b2).jobs.map showJ) b1 (emptyQ b1 b2).next ((l0.length : Int) + 1) ps x1) := by
                  constructor
                  · obtain ⟨e1, e2, e3, e4, e5⟩ := HEQ.out
                    have hh := HHO.out
                    rw [HHW.out, HL0.out] at hh
                    have hst := AreaI.start HLN.out (by rw [HNL.out]; omega) hh
                    rw [← HL0.out, ← HHW.out, ← e3, ← e4, ← e5] at hst
                    exact hst
                  · have hm : ArM w w7 w.heap.size w2.heap.size g gh (.slice none 0 0) [] b1 b2 0 ps x1 := ⟨HA7.out, HF7.out, h17, cell?_lt c9, cell?_lt h17, by simp [Value.ownBlock], by simp [Value.ownBlock], hgn, hghn⟩
                    have hm2 := hm.size ((strB l0).size + 1)
                    rw [strB_size] at hm2 ⊢
                    exact hm2
                clear hz0 hz1 f5 c9 HA7 HF7 h17 HHO HEQ HOK HMN HNO HRC HNL hb12 q0 q1 q2 q3 hnr nl1c
                generalize w7.setCell ⟨w2.heap.size, 3, none⟩ (.int .i64 ((strB l0).size + 1)) = w8 at *
                go_wp2
                go_loopw [8, 112] (fun l i wr => ∃ (k : Nat) (q : Que) (sc : Sc) (L : Int) (vj : Value), k ≤ nr ∧ l = .int .i64 L ∧ i = .int .i64 k ∧ (0 ≤ L ∧ L ≤ 1073741825) ∧ Hid (AreaI S ps b1 many k q sc L ∧ ArM w wr w.heap.size w2.heap.size g gh vj (q.jobs.map showJ) b1 q.next sc.read ps x1)) (fun _ i _ => nr - (intOf i).toNat)
                case atStart => exact ⟨0, _, _, 0, _, by omega, rfl, rfl, ⟨by omega, by omega⟩, HST.out⟩
                case round =>
                  clear HST
                  obtain ⟨k, q, sc, L, vj, hk, rfl, rfl, ⟨L0, L1⟩, HR⟩ := hrel
                  have hqj := HR.out.1.jl
                  obtain ⟨oj, cj, rfl, -, -⟩ := HR.out.2.ar.own.flat (fun _ => rfl)
                  obtain ⟨nj, hnj⟩ : ∃ nj, nj = (q.jobs.map showJ).length := ⟨_, rfl⟩
                  rw [← hnj] at HR
                  have HNJ : Hid (nj = q.jobs.length) := by show _ = _; rw [hnj, List.length_map]
                  have hnj64 : nj ≤ 64 := by have := HNJ.out; omega
                  clear hnj hqj
                  by_cases hlt : k < nr
                  · have hkx : k + 2 < ps.length := by have := HNR.out; omega
                    obtain ⟨b9, off9, e9, c9⟩ := HR.out.2.fl.tx (i := k + 1) (by omega)
                    simp only [Option.some.injEq, Addr.mk.injEq, and_true] at e9
                    obtain ⟨rfl, rfl⟩ := e9
                    obtain ⟨ln, hln⟩ : ∃ ln, ln = ps[k + 1]'(by omega) := ⟨_, rfl⟩
                    rw [← hln, show 0 + (k + 1) = 1 + k by omega] at c9
                    have hlns : ln.length ≤ 65536 := by rw [hln]; exact HPL.out _ (List.getElem_mem _)
                    have h1 := HR.out.2.hd
                    have HWO : Hid (Calls Tryz.prog 42 #[.string (strB ln), .string (strB x1), .int .i64 ((k : Int) + 1)] wr (RetWO (wordsOfV ln x1 (k + 1)) wr)) := by
                      have h := wordsOf_any (strB ln) (strB x1) (k + 1) wr (by rw [strB_size]; omega) (by rw [strB_size]; omega) (by omega)
                      rw [show (((k + 1 : Nat)) : Int) = (k : Int) + 1 from by omega] at h
                      exact h
                    have HBAD : Hid (∀ ws, WordsAre (wordsOfV ln x1 (k + 1)) ws → ¬ GoodC q L (k < many) ws → BadE S b1 many k q sc) := fun ws h1 h2 => HR.out.1.bad hkx (by rw [HX1E.out, ← hln]; exact h1) h2
                    have HWL : Hid (∀ ws, WordsAre (wordsOfV ln x1 (k + 1)) ws → ∀ x ∈ ws, x.length ≤ 65536) := fun ws h x hx => by
                      rcases h with ⟨-, e⟩ | e
                      · rw [e] at hx; cases hx
                      · have h3 := (wordsOf_some e).1
                        rw [h3] at hx
                        have := wordsV_le ln x (List.dropLast_subset _ hx)
                        omega
                    have HLN2 : Hid (∃ h : k + 1 < ps.length, ps[k + 1]'h = ln) := ⟨by omega, hln.symm⟩
                    have kd : (k : Int) < (nr : Int) := by omega
                    have k0 : (0 : Int) ≤ (k : Int) := by omega
                    have HKX := Lib.hid hkx
                    clear hln hkx hlt
                    go_wp2_with fail
                    refine HWO.out.mono ?_
                    intro e w6 hret
                    have hrow : ∃ ws gw ow cw, e = .returned (.slice ow ws.length cw) ∧ WordsAre (wordsOfV ln x1 (k + 1)) ws ∧ (0 < ws.length → ow = some ⟨gw, 0, none⟩ ∧ Flat w6 1 encT (some ⟨gw, 0, none⟩) ws) ∧ Below wr.heap.size wr w6 := by
                      rcases hret with ⟨hb6, (⟨hr, rfl⟩ | ⟨ws, gw, capw, hr, rfl, hgw, hgw2, hw1, hfw⟩)⟩
                      · exact ⟨[], 0, none, 0, rfl, .inl ⟨hr, rfl⟩, fun h => absurd h (by simp), hb6⟩
                      · exact ⟨ws, gw, _, capw, rfl, .inr hr, fun _ => ⟨rfl, hfw⟩, hb6⟩
                    obtain ⟨ws, gw, ow, cw, rfl, hws, hfw, hb6⟩ := hrow
                    have HWS := Lib.hid hws
                    have HFW := Lib.hid hfw
                    have HM6 := Lib.hid (HR.out.2.below hb6)
                    have HAI := Lib.hid HR.out.1
                    obtain ⟨nw, hnw⟩ : ∃ nw, nw = ws.length := ⟨_, rfl⟩
                    rw [← hnw]
                    have HNW := Lib.hid hnw
                    clear hws hfw hnw HR hret hb6 HWO c9 h1
                    go_upto_block 2 with fail
                    obtain ⟨p, hp⟩ : ∃ p, p = decide (k < many) := ⟨_, rfl⟩
                    rw [← hp]
                    have HP : Hid (p = true ↔ k < many) := by show _ ↔ _; rw [hp]; simp
                    clear hp
                    go_cut [8, 13, 14, 15, 16, 17, 19] from 113 to 265 (fun s8 s13 s14 s15 s16 s17 s19 wx => ∃ (good : Bool) (L' : Int) (q' : Que) (oj' : Option Addr) (nj' cj' : Nat), s13 = .bool good ∧ s8 = .int .i64 L' ∧ (0 ≤ L' ∧ L' ≤ 1073741825) ∧ Hid (ArM w wx w.heap.size w2.heap.size g gh (.slice oj' nj' cj') (q'.jobs.map showJ) b1 q'.next sc.read ps x1 ∧ (good = true → AreaI S ps b1 many (k + 1) q' (nextSc ps b1 k sc) L') ∧ (good = false → BadE S b1 many k q' sc)))
                    case first =>
                      cases p with
                      | true => as_aux_lemma =>
                        have him : k < many := HP.out.1 rfl
                        have HIM := Lib.hid him
                        clear him HP
                        by_cases h3 : nw = 3
                        · subst h3
                          obtain ⟨rfl, hfw⟩ := HFW.out (by rw [← HNW.out]; omega)
                          have hj : ∀ j (hj3 : j < 3), w6.cell? ⟨gw, j, none⟩ = some (.string (strB (ws.getD j []))) ∧ (ws.getD j []).length ≤ 65536 := fun j hj3 => by
                            have hjl : j < ws.length := by rw [← HNW.out]; omega
                            obtain ⟨b8, off8, e8, c8⟩ := hfw.tx hjl
                            simp only [Option.some.injEq, Addr.mk.injEq, and_true] at e8
                            obtain ⟨rfl, rfl⟩ := e8
                            rw [Nat.zero_add] at c8
                            rw [getD_at hjl]
                            exact ⟨c8, HWL.out ws HWS.out _ (List.getElem_mem _)⟩
                          obtain ⟨y0, hy0⟩ : ∃ y0, y0 = ws.getD 0 [] := ⟨_, rfl⟩
                          obtain ⟨y1, hy1⟩ : ∃ y1, y1 = ws.getD 1 [] := ⟨_, rfl⟩
                          obtain ⟨y2, hy2⟩ : ∃ y2, y2 = ws.getD 2 [] := ⟨_, rfl⟩
                          obtain ⟨d0, z0⟩ := hj 0 (by omega)
                          obtain ⟨d1, z1⟩ := hj 1 (by omega)
                          obtain ⟨d2, z2⟩ := hj 2 (by omega)
                          rw [← hy0] at d0
                          rw [← hy1] at d1 z1
                          rw [← hy2] at d2 z2
                          have HY0 := Lib.hid hy0
                          have HY1 := Lib.hid hy1
                          have HY2 := Lib.hid hy2
                          clear hj hfw hy0 hy1 hy2 z0
                          by_cases hk3 : y0 = keepB
                          · have t0 : ((strB y0).toList == [107, 101, 101, 112]) = true := strEq.2 hk3
                            have HKY := Lib.hid hk3
                            obtain ⟨n, hn⟩ : ∃ n, n = bigV y1 := ⟨_, rfl⟩
                            have HNN := Lib.hid hn
                            have HBI : Hid (∀ W, Calls Tryz.prog 43 #[.string (strB y1)] W (fun e w' => e = .returned (.int .i64 n) ∧ W = w')) := fun W => by rw [hn]; exact big_any (strB y1) W (by rw [strB_size]; omega)
                            have HJT : Hid (∀ W, Calls Tryz.prog 44 #[.string (strB y2)] W (RetJT y2 W)) := fun W => jobText_any (strB y2) W (by rw [strB_size]; omega)
                            have hnlt : n < 1000000000000 := by
                              rw [hn]
                              by_cases h : 0 ≤ bigV y1
                              · exact (big_some h).2
                              · omega
                            clear hk3 hn z1 z2
                            go_wp2_with fail
                            refine (HBI.out _).mono ?_
                            rintro e w7 ⟨rfl, rfl⟩
                            go_wp2_with fail
                            refine (HJT.out _).mono ?_
                            rintro e w7 ⟨T, ok, rfl, hok, hno, hb7⟩
                            have HOK := Lib.hid hok
                            have HNK := Lib.hid hno
                            have HM7 := Lib.hid (HM6.out.below hb7)
                            clear hok hno hb7 d0 d1 d2 HBI HJT HM6
                            obtain ⟨q0, q1, q2, q3⟩ := HM7.out.ar.c5
                            have hnx := HAI.out.nx
                            cases ok with
                            | false =>
                              have HMX := HM7
                              have HB : Hid (BadE S b1 many k q sc) := HBAD.out ws HWS.out (fun hg => by
                                rcases hg with ⟨_, _, _, hd, _⟩ | ⟨_, _, _, hd, _⟩ | ⟨h2, _⟩
                                · rw [← HY2.out, HNK.out rfl] at hd; cases hd
                                · rw [← HY2.out, HNK.out rfl] at hd; cases hd
                                · rw [← HNW.out] at h2; omega)
                              go_wp2_with fail
                              go_meet
                              exact ⟨false, L, q, oj, nj, cj, rfl, rfl, ⟨by omega, by omega⟩, ⟨HMX.out, fun h => (by cases h), fun _ => HB.out⟩⟩
                            | true =>
                              have HDE : Hid (decV (ws.getD 2 []) = (T.data.toList, true)) := by rw [← HY2.out]; exact HOK.out rfl
                              by_cases c1 : L < n
                              · by_cases c2 : n < q.next
                                · have hTT : Hid (AreaI S ps b1 many (k + 1) { q with jobs := q.jobs ++ [⟨n, T, 0, 0⟩] } (nextSc ps b1 k sc) n) := by
                                    have h := HAI.out.keep2 HKX.out HIM.out (ws := ws) (T := T) (by rw [HX1E.out, HLN2.out.2]; exact HWS.out) HNW.out.symm (by rw [← HY0.out]; exact HKY.out) HDE.out (by rw [← HY1.out, ← HNN.out]; exact c1) (by rw [← HY1.out, ← HNN.out]; exact c2)
                                    rw [← HY1.out, ← HNN.out] at h
                                    exact h
                                  have HAL := Lib.hid (balloc (Below.refl _ w7) (.cells #[.int .i64 n, .string T] 41))
                                  have HM8 := Lib.hid (HM7.out.below HAL.out)
                                  have HNEW : Hid (∀ j u, (encSj (⟨n, T⟩ : Sj))[j]? = some u → (w7.alloc (.cells #[.int .i64 n, .string T] 41)).cell? ((⟨w7.heap.size, 0, none⟩ : Addr).add j) = some u) := World.news_of_block (cs := #[.int .i64 n, .string T]) (t := 41) (fr := (0, 0)) (heap_alloc_new w7 _)
                                  have HNJ2 : Hid ((q.jobs.map showJ).length = nj) := by show _ = _; rw [List.length_map]; exact HNJ.out.symm
                                  have HMP : Hid ((q.jobs ++ [(⟨n, T, 0, 0⟩ : Jb)]).map showJ = q.jobs.map showJ ++ [⟨n, T⟩]) := by show _ = _; rw [List.map_append]; rfl
                                  go_wp2_with (at_builtin; refine wpList_app1L rfl (.tmp 198) (.tmp 202) 29 rfl elemSj Tryz.underlying29 w.heap.size _ (q.jobs.map showJ) encSj rfl HM8.out.ar.own (⟨n, T⟩ : Sj) ⟨w7.heap.size, 0, none⟩ 1 rfl rfl HNEW.out ?c1 ?c2 ?c3 ?c4 ?_)
                                  case c1 => simp [encSj, Value.oneCell']
                                  case c2 => rw [HNJ2.out]; omega
                                  case c3 => rw [HNJ2.out]; unfold maxLen; omega
                                  case c4 => exact HM8.out.ar.be.size
                                  intro g7 cap7 w9 hown9 hg9 hat9
                                  have ht9 := HM8.out.ar.t5.grown (by omega) hg9 HM8.out.ar.n5
                                  have f9 := ht9.fz
                                  have q90 : w9.cell? ⟨w2.heap.size, 0, none⟩ = some (.slice oj nj cj) := ht9.at' 0 (by omega)
                                  have q92 : w9.cell? ⟨w2.heap.size, 2, none⟩ = some (.int .i64 q.next) := ht9.at' 2 (by omega)
                                  have HM9 := Lib.hid (HM8.out.app hown9 hg9 (by rw [World.size_alloc]; exact hat9))
                                  rw [← HNJ.out, ← HMP.out] at HM9
                                  rw [← HNJ.out]
                                  clear hown9 hg9 hat9 ht9 HM8 HNEW HAL
                                  go_wp2_with fail
                                  go_meet
                                  exact ⟨true, n, _, _, _, _, rfl, rfl, ⟨by omega, by omega⟩, ⟨HM9.out, fun _ => hTT.out, fun h => (by cases h)⟩⟩
                                · have HMX := HM7
                                  have HB : Hid (BadE S b1 many k q sc) := HBAD.out ws HWS.out (fun hg => by
                                    rcases hg with ⟨_, _, _, _, _, hl⟩ | ⟨_, hq, _⟩ | ⟨h2, _⟩
                                    · rw [← HY1.out, ← HNN.out] at hl; exact c2 hl
                                    · exact hq HIM.out
                                    · rw [← HNW.out] at h2; omega)
                                  go_wp2_with fail
                                  go_meet
                                  exact ⟨false, L, q, oj, nj, cj, rfl, rfl, ⟨by omega, by omega⟩, ⟨HMX.out, fun h => (by cases h), fun _ => HB.out⟩⟩
                              · have HMX := HM7
                                have HB : Hid (BadE S b1 many k q sc) := HBAD.out ws HWS.out (fun hg => by
                                  rcases hg with ⟨_, _, _, _, hl, _⟩ | ⟨_, _, _, _, hl, _⟩ | ⟨h2, _⟩
                                  · rw [← HY1.out, ← HNN.out] at hl; exact c1 hl
                                  · rw [← HY1.out, ← HNN.out] at hl; exact c1 hl
                                  · rw [← HNW.out] at h2; omega)
                                go_wp2_with fail
                                go_meet
                                exact ⟨false, L, q, oj, nj, cj, rfl, rfl, ⟨by omega, by omega⟩, ⟨HMX.out, fun h => (by cases h), fun _ => HB.out⟩⟩
                          · have t0 : ((strB y0).toList == [107, 101, 101, 112]) = false := strNe.2 hk3
                            have HKY := Lib.hid hk3
                            have HMX := HM6
                            have HB : Hid (BadE S b1 many k q sc) := HBAD.out ws HWS.out (fun hg => by
                              rcases hg with ⟨_, _, h0, _⟩ | ⟨_, hq, _⟩ | ⟨h2, _⟩
                              · exact HKY.out (by rw [HY0.out]; exact h0)
                              · exact hq HIM.out
                              · rw [← HNW.out] at h2; omega)
                            clear hk3 d1 d2
                            go_wp2_with fail
                            go_meet
                            exact ⟨false, L, q, oj, nj, cj, rfl, rfl, ⟨by omega, by omega⟩, ⟨HMX.out, fun h => (by cases h), fun _ => HB.out⟩⟩
                        · have e3 : ((nw : Int) == 3) = false := by rw [beq_eq_false_iff_ne]; omega
                          have HMX := HM6
                          have HN3 := Lib.hid h3
                          have HB : Hid (BadE S b1 many k q sc) := HBAD.out ws HWS.out (fun hg => by
                            rcases hg with ⟨h2, _⟩ | ⟨h2, _⟩ | ⟨_, hq, _⟩
                            · rw [← HNW.out] at h2; exact HN3.out h2
                            · rw [← HNW.out] at h2; exact HN3.out h2
                            · exact hq HIM.out)
                          clear h3
                          go_wp2_with fail
                          go_meet
                          exact ⟨false, L, q, oj, nj, cj, rfl, rfl, ⟨by omega, by omega⟩, ⟨HMX.out, fun h => (by cases h), fun _ => HB.out⟩⟩
                      | false => as_aux_lemma =>
                        have him : many ≤ k := by
                          by_cases h : k < many
                          · have := HP.out.2 h
                            cases this
                          · omega
                        have HIM := Lib.hid him
                        clear him HP
                        by_cases h3 : nw = 3
                        · subst h3
                          obtain ⟨rfl, hfw⟩ := HFW.out (by rw [← HNW.out]; omega)
                          have hj : ∀ j (hj3 : j < 3), w6.cell? ⟨gw, j, none⟩ = some (.string (strB (ws.getD j []))) ∧ (ws.getD j []).length ≤ 65536 := fun j hj3 => by
                            have hjl : j < ws.length := by rw [← HNW.out]; omega
                            obtain ⟨b8, off8, e8, c8⟩ := hfw.tx hjl
                            simp only [Option.some.injEq, Addr.mk.injEq, and_true] at e8
                            obtain ⟨rfl, rfl⟩ := e8
                            rw [Nat.zero_add] at c8
                            rw [getD_at hjl]
                            exact ⟨c8, HWL.out ws HWS.out _ (List.getElem_mem _)⟩
                          obtain ⟨y0, hy0⟩ : ∃ y0, y0 = ws.getD 0 [] := ⟨_, rfl⟩
                          obtain ⟨y1, hy1⟩ : ∃ y1, y1 = ws.getD 1 [] := ⟨_, rfl⟩
                          obtain ⟨y2, hy2⟩ : ∃ y2, y2 = ws.getD 2 [] := ⟨_, rfl⟩
                          obtain ⟨d0, z0⟩ := hj 0 (by omega)
                          obtain ⟨d1, z1⟩ := hj 1 (by omega)
                          obtain ⟨d2, z2⟩ := hj 2 (by omega)
                          rw [← hy0] at d0
                          rw [← hy1] at d1 z1
                          rw [← hy2] at d2 z2
                          have HY0 := Lib.hid hy0
                          have HY1 := Lib.hid hy1
                          have HY2 := Lib.hid hy2
                          clear hj hfw hy0 hy1 hy2 z0
                          by_cases hk3 : y0 = putB
                          · have t0 : ((strB y0).toList == [112, 117, 116]) = true := strEq.2 hk3
                            have HKY := Lib.hid hk3
                            obtain ⟨n, hn⟩ : ∃ n, n = bigV y1 := ⟨_, rfl⟩
                            have HNN := Lib.hid hn
                            have HBI : Hid (∀ W, Calls Tryz.prog 43 #[.string (strB y1)] W (fun e w' => e = .returned (.int .i64 n) ∧ W = w')) := fun W => by rw [hn]; exact big_any (strB y1) W (by rw [strB_size]; omega)
                            have HJT : Hid (∀ W, Calls Tryz.prog 44 #[.string (strB y2)] W (RetJT y2 W)) := fun W => jobText_any (strB y2) W (by rw [strB_size]; omega)
                            have hnlt : n < 1000000000000 := by
                              rw [hn]
                              by_cases h : 0 ≤ bigV y1
                              · exact (big_some h).2
                              · omega
                            clear hk3 hn z1 z2
                            go_wp2_with fail
                            refine (HBI.out _).mono ?_
                            rintro e w7 ⟨rfl, rfl⟩
                            go_wp2_with fail
                            refine (HJT.out _).mono ?_
                            rintro e w7 ⟨T, ok, rfl, hok, hno, hb7⟩
                            have HOK := Lib.hid hok
                            have HNK := Lib.hid hno
                            have HM7 := Lib.hid (HM6.out.below hb7)
                            clear hok hno hb7 d0 d1 d2 HBI HJT HM6
                            obtain ⟨q0, q1, q2, q3⟩ := HM7.out.ar.c5
                            have hnx := HAI.out.nx
                            cases ok with
                            | false =>
                              have HMX := HM7
                              have HB : Hid (BadE S b1 many k q sc) := HBAD.out ws HWS.out (fun hg => by
                                rcases hg with ⟨_, _, _, hd, _⟩ | ⟨_, _, _, hd, _⟩ | ⟨h2, _⟩
                                · rw [← HY2.out, HNK.out rfl] at hd; cases hd
                                · rw [← HY2.out, HNK.out rfl] at hd; cases hd
                                · rw [← HNW.out] at h2; omega)
                              go_wp2_with fail
                              go_meet
                              exact ⟨false, L, q, oj, nj, cj, rfl, rfl, ⟨by omega, by omega⟩, ⟨HMX.out, fun h => (by cases h), fun _ => HB.out⟩⟩
                            | true =>
                              have HDE : Hid (decV (ws.getD 2 []) = (T.data.toList, true)) := by rw [← HY2.out]; exact HOK.out rfl
                              by_cases c1 : L < n
                              · by_cases c2 : n = q.next
                                · have e2 : (n == q.next) = true := by rw [beq_iff_eq]; exact c2
                                  by_cases c3 : n ≤ 1073741824
                                  · by_cases c4 : nj < 64
                                    · have c4i : (nj : Int) < 64 := by omega
                                      have hTT : Hid (AreaI S ps b1 many (k + 1) { q with jobs := q.jobs ++ [⟨n, T, 0, 0⟩], next := q.next + 1 } (nextSc ps b1 k sc) n) := by
                                        have h := HAI.out.put2 HKX.out HIM.out (ws := ws) (T := T) (by rw [HX1E.out, HLN2.out.2]; exact HWS.out) HNW.out.symm (by rw [← HY0.out]; exact HKY.out) HDE.out (by rw [← HY1.out, ← HNN.out]; exact c1) (by rw [← HY1.out, ← HNN.out]; exact c2) (by rw [← HY1.out, ← HNN.out]; exact c3) (by rw [← HNJ.out]; exact c4)
                                        rw [← HY1.out, ← HNN.out] at h
                                        exact h
                                      have HC2 := Lib.hid c2
                                      clear c2
                                      have HAL := Lib.hid (balloc (Below.refl _ w7) (.cells #[.int .i64 n, .string T] 41))
                                      have HM8 := Lib.hid (HM7.out.below HAL.out)
                                      have HNEW : Hid (∀ j u, (encSj (⟨n, T⟩ : Sj))[j]? = some u → (w7.alloc (.cells #[.int .i64 n, .string T] 41)).cell? ((⟨w7.heap.size, 0, none⟩ : Addr).add j) = some u) := World.news_of_block (cs := #[.int .i64 n, .string T]) (t := 41) (fr := (0, 0)) (heap_alloc_new w7 _)
                                      have HNJ2 : Hid ((q.jobs.map showJ).length = nj) := by show _ = _; rw [List.length_map]; exact HNJ.out.symm
                                      have HMP : Hid ((q.jobs ++ [(⟨n, T, 0, 0⟩ : Jb)]).map showJ = q.jobs.map showJ ++ [⟨n, T⟩]) := by show _ = _; rw [List.map_append]; rfl
                                      go_wp2_with (at_builtin; refine wpList_app1L rfl (.tmp 198) (.tmp 202) 29 rfl elemSj Tryz.underlying29 w.heap.size _ (q.jobs.map showJ) encSj rfl HM8.out.ar.own (⟨n, T⟩ : Sj) ⟨w7.heap.size, 0, none⟩ 1 rfl rfl HNEW.out ?c1 ?c2 ?c3 ?c4 ?_)
                                      case c1 => simp [encSj, Value.oneCell']
                                      case c2 => rw [HNJ2.out]; omega
                                      case c3 => rw [HNJ2.out]; unfold maxLen; omega
                                      case c4 => exact HM8.out.ar.be.size
                                      intro g7 cap7 w9 hown9 hg9 hat9
                                      have ht9 := HM8.out.ar.t5.grown (by omega) hg9 HM8.out.ar.n5
                                      have f9 := ht9.fz
                                      have q90 : w9.cell? ⟨w2.heap.size, 0, none⟩ = some (.slice oj nj cj) := ht9.at' 0 (by omega)
                                      have q92 : w9.cell? ⟨w2.heap.size, 2, none⟩ = some (.int .i64 q.next) := ht9.at' 2 (by omega)
                                      have HM9 := Lib.hid (HM8.out.app hown9 hg9 (by rw [World.size_alloc]; exact hat9))
                                      rw [← HNJ.out, ← HMP.out] at HM9
                                      rw [← HNJ.out]
                                      clear hown9 hg9 hat9 ht9 HM8 HNEW HAL
                                      have HMA := Lib.hid (HM9.out.next (q.next + 1))
                                      go_wp2_with fail
                                      go_meet
                                      exact ⟨true, n, _, _, _, _, rfl, rfl, ⟨by omega, by omega⟩, ⟨HMA.out, fun _ => hTT.out, fun h => (by cases h)⟩⟩
                                    · have HMX := HM7
                                      have c4i : ¬ (nj : Int) < 64 := by omega
                                      have HB : Hid (BadE S b1 many k q sc) := HBAD.out ws HWS.out (fun hg => by
                                        rcases hg with ⟨_, hq, _⟩ | ⟨_, _, _, _, _, k2, k3, k4⟩ | ⟨h2, _⟩
                                        · have := HIM.out; omega
                                        · rw [← HNJ.out] at k4; exact c4 k4
                                        · rw [← HNW.out] at h2; omega)
                                      have HC2 := Lib.hid c2
                                      clear c2
                                      go_wp2_with fail
                                      go_meet
                                      exact ⟨false, L, q, oj, nj, cj, rfl, rfl, ⟨by omega, by omega⟩, ⟨HMX.out, fun h => (by cases h), fun _ => HB.out⟩⟩
                                  · have HMX := HM7
                                    have HB : Hid (BadE S b1 many k q sc) := HBAD.out ws HWS.out (fun hg => by
                                      rcases hg with ⟨_, hq, _⟩ | ⟨_, _, _, _, _, k2, k3, k4⟩ | ⟨h2, _⟩
                                      · have := HIM.out; omega
                                      · rw [← HY1.out, ← HNN.out] at k3; exact c3 k3
                                      · rw [← HNW.out] at h2; omega)
                                    have HC2 := Lib.hid c2
                                    clear c2
                                    go_wp2_with fail
                                    go_meet
                                    exact ⟨false, L, q, oj, nj, cj, rfl, rfl, ⟨by omega, by omega⟩, ⟨HMX.out, fun h => (by cases h), fun _ => HB.out⟩⟩
                                · have e2 : (n == q.next) = false := by rw [beq_eq_false_iff_ne]; exact c2
                                  have HMX := HM7
                                  have HB : Hid (BadE S b1 many k q sc) := HBAD.out ws HWS.out (fun hg => by
                                    rcases hg with ⟨_, hq, _⟩ | ⟨_, _, _, _, _, k2, k3, k4⟩ | ⟨h2, _⟩
                                    · have := HIM.out; omega
                                    · rw [← HY1.out, ← HNN.out] at k2; exact c2 k2
                                    · rw [← HNW.out] at h2; omega)
                                  have HC2 := Lib.hid c2
                                  clear c2
                                  go_wp2_with fail
                                  go_meet
                                  exact ⟨false, L, q, oj, nj, cj, rfl, rfl, ⟨by omega, by omega⟩, ⟨HMX.out, fun h => (by cases h), fun _ => HB.out⟩⟩
                              · have HMX := HM7
                                have HB : Hid (BadE S b1 many k q sc) := HBAD.out ws HWS.out (fun hg => by
                                  rcases hg with ⟨_, _, _, _, hl, _⟩ | ⟨_, _, _, _, hl, _⟩ | ⟨h2, _⟩
                                  · rw [← HY1.out, ← HNN.out] at hl; exact c1 hl
                                  · rw [← HY1.out, ← HNN.out] at hl; exact c1 hl
                                  · rw [← HNW.out] at h2; omega)
                                go_wp2_with fail
                                go_meet
                                exact ⟨false, L, q, oj, nj, cj, rfl, rfl, ⟨by omega, by omega⟩, ⟨HMX.out, fun h => (by cases h), fun _ => HB.out⟩⟩
                          · have t0 : ((strB y0).toList == [112, 117, 116]) = false := strNe.2 hk3
                            have HKY := Lib.hid hk3
                            have HMX := HM6
                            have HB : Hid (BadE S b1 many k q sc) := HBAD.out ws HWS.out (fun hg => by
                              rcases hg with ⟨_, hq, _⟩ | ⟨_, _, h0, _⟩ | ⟨h2, _⟩
                              · have := HIM.out; omega
                              · exact HKY.out (by rw [HY0.out]; exact h0)
                              · rw [← HNW.out] at h2; omega)
                            clear hk3 d1 d2
                            go_wp2_with fail
                            go_meet
                            exact ⟨false, L, q, oj, nj, cj, rfl, rfl, ⟨by omega, by omega⟩, ⟨HMX.out, fun h => (by cases h), fun _ => HB.out⟩⟩
                        · have HN3 := Lib.hid h3
                          by_cases h2 : nw = 2
                          · subst h2
                            clear h3
                            obtain ⟨rfl, hfw⟩ := HFW.out (by rw [← HNW.out]; omega)
                            have hj : ∀ j (hj3 : j < 2), w6.cell? ⟨gw, j, none⟩ = some (.string (strB (ws.getD j []))) ∧ (ws.getD j []).length ≤ 65536 := fun j hj3 => by
                              have hjl : j < ws.length := by rw [← HNW.out]; omega
                              obtain ⟨b8, off8, e8, c8⟩ := hfw.tx hjl
                              simp only [Option.some.injEq, Addr.mk.injEq, and_true] at e8
                              obtain ⟨rfl, rfl⟩ := e8
                              rw [Nat.zero_add] at c8
                              rw [getD_at hjl]
                              exact ⟨c8, HWL.out ws HWS.out _ (List.getElem_mem _)⟩
                            obtain ⟨y0, hy0⟩ : ∃ y0, y0 = ws.getD 0 [] := ⟨_, rfl⟩
                            obtain ⟨y1, hy1⟩ : ∃ y1, y1 = ws.getD 1 [] := ⟨_, rfl⟩
                            obtain ⟨d0, z0⟩ := hj 0 (by omega)
                            obtain ⟨d1, z1⟩ := hj 1 (by omega)
                            rw [← hy0] at d0
                            rw [← hy1] at d1 z1
                            have HY0 := Lib.hid hy0
                            have HY1 := Lib.hid hy1
                            clear hj hfw hy0 hy1 z0
                            by_cases hk3 : y0 = doneB
                            · have t0 : ((strB y0).toList == [100, 111, 110, 101]) = true := strEq.2 hk3
                              have HKY := Lib.hid hk3
                              obtain ⟨n, hn⟩ : ∃ n, n = bigV y1 := ⟨_, rfl⟩
                              have HNN := Lib.hid hn
                              have HBI : Hid (∀ W, Calls Tryz.prog 43 #[.string (strB y1)] W (fun e w' => e = .returned (.int .i64 n) ∧ W = w')) := fun W => by rw [hn]; exact big_any (strB y1) W (by rw [strB_size]; omega)
                              obtain ⟨q0, q1, q2, q3⟩ := HM6.out.ar.c5
                              have HD0 := Lib.hid (DoneAt.start w6 q.jobs n)
                              have HBD : Hid ((∀ j (hj : j < q.jobs.length), q.jobs[j].id ≠ n) → BadE S b1 many k q sc) := fun hne => HBAD.out ws HWS.out (fun hg => by
                                rcases hg with ⟨h2, _⟩ | ⟨h2, _⟩ | ⟨_, _, _, m, hm, h0⟩
                                · rw [← HNW.out] at h2; omega
                                · rw [← HNW.out] at h2; omega
                                · rw [← HY1.out, ← HNN.out] at h0; exact hne m hm h0)
                              have HGD : Hid ((∃ m, ∃ hm : m < q.jobs.length, q.jobs[m].id = n) → ∃ q', AreaI S ps b1 many (k + 1) q' (nextSc ps b1 k sc) L ∧ q'.jobs = stayV q.jobs n ∧ q'.next = q.next) := fun hex => by
                                have h := HAI.out.done2 HKX.out HIM.out (ws := ws) (by rw [HX1E.out, HLN2.out.2]; exact HWS.out) HNW.out.symm (by rw [← HY0.out]; exact HKY.out) (by rw [← HY1.out, ← HNN.out]; exact hex)
                                rw [← HY1.out, ← HNN.out] at h
                                exact h
                              have HD1 := Lib.hid d1
                              clear hk3 hn z1 d1
                              go_wp2_with fail
                              clear d0 q0 q1 q2 q3
                              go_loopw [13, 17, 232] (fun s13 v i wr => ∃ (m : Nat) (gd : Bool) (ou : Option Addr) (nu cu : Nat), m ≤ nj ∧ s13 = .bool gd ∧ v = .slice ou nu cu ∧ i = .int .i64 m ∧ Hid (DoneAt w6 wr q.jobs n m (.slice ou nu cu) gd)) (fun _ _ i _ => nj - (intOf i).toNat)
                              case atStart => exact ⟨0, false, none, 0, 0, by omega, rfl, rfl, rfl, HD0.out⟩
                              case round =>
                                clear HD0
                                obtain ⟨m, gd, ou, nu, cu, hm, rfl, rfl, rfl, HD⟩ := hrel
                                by_cases hlt : m < nj
                                · have hmx : m < q.jobs.length := by have := HNJ.out; omega
                                  obtain ⟨oa, ca, e5, -, hfl⟩ := (HM6.out.below HD.out.be).ar.own.flat (fun _ => rfl)
                                  simp only [Value.slice.injEq] at e5
                                  obtain ⟨rfl, -, rfl⟩ := e5
                                  obtain ⟨bj, offj, rfl, i0, i1⟩ := hfl.sjA (i := m) (by rw [List.length_map]; exact hmx)
                                  obtain ⟨x, hx⟩ : ∃ x, x = q.jobs[m]'hmx := ⟨_, rfl⟩
                                  simp only [List.getElem_map] at i0 i1
                                  rw [← hx] at i0 i1
                                  replace i0 : wr.cell? ⟨bj, offj + m * 2, none⟩ = some (.int .i64 x.id) := i0
                                  replace i1 : wr.cell? ⟨bj, offj + m * 2 + 1, none⟩ = some (.string x.text) := i1
                                  have HX : Hid (∃ h : m < q.jobs.length, q.jobs[m]'h = x) := ⟨hmx, hx.symm⟩
                                  have kd : (m : Int) < (nj : Int) := by omega
                                  have m0 : (0 : Int) ≤ (m : Int) := by omega
                                  have hwl := cell?_lt i0
                                  simp only at hwl
                                  have HBA := Lib.hid (balloc (Below.refl _ wr) (.cells #[.int .i64 x.id, .string x.text] 41))
                                  have HQ0 : Hid ((wr.alloc (.cells #[.int .i64 x.id, .string x.text] 41)).cell? ⟨wr.heap.size, 0, none⟩ = some (.int .i64 x.id) ∧ (wr.alloc (.cells #[.int .i64 x.id, .string x.text] 41)).cell? ⟨wr.heap.size, 1, none⟩ = some (.string x.text)) :=
                                    ⟨by rw [cell_of_row _ wr.heap.size 0 _ _ (0, 0) (heap_alloc_new wr _)]; rfl, by rw [cell_of_row _ wr.heap.size 1 _ _ (0, 0) (heap_alloc_new wr _)]; rfl⟩
                                  clear hfl hx hmx hlt
                                  go_upto_region 35 with fail
                                  obtain ⟨wz, hwz⟩ : ∃ wz, wz = wr.alloc (.cells #[.int .i64 x.id, .string x.text] 41) := ⟨_, rfl⟩
                                  rw [← hwz] at HBA HQ0
                                  rw [← hwz]
                                  clear hwz i0 i1
                                  obtain ⟨k0', k1'⟩ := HQ0.out
                                  have d1 := keepCell HBA.out (keepCell HD.out.be HD1.out)
                                  go_cut [242] from 236 to 241 (fun s wx => ∃ e : Bool, s = .bool e ∧ (e = true ↔ x.id = n) ∧ wx = wz.drew)
                                  case first =>
                                    go_region_with (go_at_call 43; ((with_reducible refine (HBI.out _).mono ?_); rintro e wy ⟨rfl, rfl⟩))
                                    all_goals
                                      go_wp2_with fail
                                      go_meet
                                      exact ⟨_, rfl, beq_iff_eq, rfl⟩
                                  case rest =>
                                    obtain ⟨e, rfl, he, rfl⟩ := hcut
                                    clear d1 k0' k1'
                                    have HB2 : Hid (Below wr.heap.size wr wz.drew) := HBA.out.drew
                                    have k0' : wz.drew.cell? ⟨wr.heap.size, 0, none⟩ = some (.int .i64 x.id) := HQ0.out.1
                                    have k1' : wz.drew.cell? ⟨wr.heap.size, 1, none⟩ = some (.string x.text) := HQ0.out.2
                                    clear HQ0 HBA
                                    generalize wz.drew = wy at *
                                    cases e with
                                    | true =>
                                      have HNX := Lib.hid ((HD.out.below HB2.out).hit HX.out.1 (by rw [HX.out.2]; exact he.1 rfl))
                                      clear he
                                      go_wp2_with fail
                                      go_roundw
                                      case rel => exact ⟨m + 1, true, _, _, _, by omega, rfl, rfl, by go_num, HNX.out⟩
                                      case measure => simp [intOf]; omega
                                    | false =>
                                      have hne : x.id ≠ n := fun h => by have := he.2 h; cases this
                                      have HNE := Lib.hid hne
                                      have hl2 : (stayV (q.jobs.take m) n).length ≤ 64 := by
                                        have h1 := List.length_filter_le (fun j : Jb => decide (j.id ≠ n)) (q.jobs.take m)
                                        have h2 := List.length_take_le m q.jobs
                                        unfold stayV
                                        omega
                                      have HOW := Lib.hid ((HD.out.below HB2.out).own.below (balloc (Below.refl _ wy) (.cells #[.int .i64 x.id, .string x.text] 41)))
                                      have HL2 : Hid (((stayV (q.jobs.take m) n).map showJ).length ≤ 64) := by show _ ≤ _; rw [List.length_map]; exact hl2
                                      have HNEW : Hid (∀ j u, (encSj (showJ x))[j]? = some u → (wy.alloc (.cells #[.int .i64 x.id, .string x.text] 41)).cell? ((⟨wy.heap.size, 0, none⟩ : Addr).add j) = some u) := World.news_of_block (cs := #[.int .i64 x.id, .string x.text]) (t := 41) (fr := (0, 0)) (heap_alloc_new wy _)
                                      have HSZ : Hid (w6.heap.size ≤ (wy.alloc (.cells #[.int .i64 x.id, .string x.text] 41)).heap.size) := by show _ ≤ _; have h1 := HD.out.be.size; have h2 := HB2.out.size; rw [World.size_alloc]; omega
                                      clear he hne hl2
                                      go_wp2_with (at_builtin; refine wpList_app1L rfl (.tmp 243) (.tmp 245) 29 rfl elemSj Tryz.underlying29 w6.heap.size _ ((stayV (q.jobs.take m) n).map showJ) encSj rfl HOW.out (showJ x) ⟨wy.heap.size, 0, none⟩ 1 rfl rfl HNEW.out ?c1 ?c2 ?c3 ?c4 ?_)
                                      case c1 => simp [encSj, Value.oneCell']
                                      case c2 => have := HL2.out; omega
                                      case c3 => have := HL2.out; unfold maxLen; omega
                                      case c4 => exact HSZ.out
                                      intro g7 cap7 w12 hown12 hg12 hat12
                                      have HNX := Lib.hid (HD.out.miss (o := .cells #[.int .i64 x.id, .string x.text] 41) HX.out.1 (by rw [HX.out.2]; exact HNE.out) HB2.out hg12 (by rw [HX.out.2]; exact hown12))
                                      clear hown12 hg12 hat12 HOW HNEW HSZ k0' k1'
                                      go_wp2_with fail
                                      go_roundw
                                      case rel => exact ⟨m + 1, gd, _, _, _, by omega, rfl, rfl, by go_num, HNX.out⟩
                                      case measure => simp [intOf]; omega
                                · obtain rfl : nj = m := by omega
                                  have HDF : Hid (DoneAt w6 wr q.jobs n q.jobs.length (.slice ou nu cu) gd) := by rw [← HNJ.out]; exact HD.out
                                  have HFN := Lib.hid (HDF.out.fin HM6.out)
                                  have hm2 := HM6.out.below HD.out.be
                                  obtain ⟨q0, q1, q2, q3⟩ := hm2.ar.c5
                                  have f5 := hm2.ar.t5.fz
                                  clear hm2 hlt hm
                                  cases gd with
                                  | true =>
                                    obtain ⟨q', g1, g2, g3⟩ := HGD.out (by obtain ⟨j, h1, _, h2⟩ := HDF.out.gd.1 rfl; exact ⟨j, h1, h2⟩)
                                    have HQ1 := Lib.hid g1
                                    rw [← g2, ← g3] at HFN
                                    clear g1 g2 g3
                                    go_wp2_with fail
                                    go_meet
                                    exact ⟨true, L, q', ou, nu, cu, rfl, rfl, ⟨by omega, by omega⟩, ⟨HFN.out, fun _ => HQ1.out, fun h => (by cases h)⟩⟩
                                  | false =>
                                    have HQ1 := Lib.hid (HBD.out HDF.out.none.2)
                                    rw [HDF.out.none.1] at HFN
                                    go_wp2_with fail
                                    go_meet
                                    exact ⟨false, L, q, ou, nu, cu, rfl, rfl, ⟨by omega, by omega⟩, ⟨HFN.out, fun h => (by cases h), fun _ => HQ1.out⟩⟩
                            · have t0 : ((strB y0).toList == [100, 111, 110, 101]) = false := strNe.2 hk3
                              have HKY := Lib.hid hk3
                              have HMX := HM6
                              have HB : Hid (BadE S b1 many k q sc) := HBAD.out ws HWS.out (fun hg => by
                                rcases hg with ⟨h2, _⟩ | ⟨h2, _⟩ | ⟨_, _, h0, _⟩
                                · rw [← HNW.out] at h2; omega
                                · rw [← HNW.out] at h2; omega
                                · exact HKY.out (by rw [HY0.out]; exact h0))
                              clear hk3 d1
                              go_wp2_with fail
                              go_meet
                              exact ⟨false, L, q, oj, nj, cj, rfl, rfl, ⟨by omega, by omega⟩, ⟨HMX.out, fun h => (by cases h), fun _ => HB.out⟩⟩
                          · have e3 : ((nw : Int) == 3) = false := by rw [beq_eq_false_iff_ne]; omega
                            have e2 : ((nw : Int) == 2) = false := by rw [beq_eq_false_iff_ne]; omega
                            have HN2 := Lib.hid h2
                            have HMX := HM6
                            have HB : Hid (BadE S b1 many k q sc) := HBAD.out ws HWS.out (fun hg => by
                              rcases hg with ⟨h2, _⟩ | ⟨h2, _⟩ | ⟨h2, _⟩
                              · rw [← HNW.out] at h2; exact HN3.out h2
                              · rw [← HNW.out] at h2; exact HN3.out h2
                              · rw [← HNW.out] at h2; exact HN2.out h2)
                            clear h2 h3
                            go_wp2_with fail
                            go_meet
                            exact ⟨false, L, q, oj, nj, cj, rfl, rfl, ⟨by omega, by omega⟩, ⟨HMX.out, fun h => (by cases h), fun _ => HB.out⟩⟩

                    case rest => as_aux_lemma =>
                      obtain ⟨good, L', q', oj', nj', cj', rfl, rfl, ⟨l0', l1'⟩, HO⟩ := hcut
                      clear HM6 HBAD HWS HFW HNW HWL
                      have hrd : 0 ≤ sc.read ∧ sc.read ≤ 65536 := by
                        have h1 := HAI.out.rd
                        have h2 := HAI.out.sm
                        unfold Sums at h2
                        omega
                      obtain ⟨hrd0, hrd1⟩ := hrd
                      cases good with
                      | true =>
                        have hm := HO.out.1
                        obtain ⟨q0, q1, q2, q3⟩ := hm.ar.c5
                        have f5 := hm.ar.t5.fz
                        have hls0 : ((strB ln).size : Int) ≤ 65536 := by rw [strB_size]; omega
                        have hls1 : (0 : Int) ≤ ((strB ln).size : Int) := by omega
                        have hm2 := hm.size (sc.read + (((strB ln).size : Int) + 1))
                        have hre : sc.read + (((strB ln).size : Int) + 1) = (nextSc ps b1 k sc).read := by
                          obtain ⟨h, e⟩ := HLN2.out
                          unfold nextSc
                          rw [getD_at h, e, strB_size]
                          simp only
                          omega
                        have HNX : Hid (AreaI S ps b1 many (k + 1) q' (nextSc ps b1 k sc) L' ∧ ArM w (wc.setCell ⟨w2.heap.size, 3, none⟩ (.int .i64 (sc.read + (((strB ln).size : Int) + 1)))) w.heap.size w2.heap.size g gh (.slice oj' nj' cj') (q'.jobs.map showJ) b1 q'.next (nextSc ps b1 k sc).read ps x1) := ⟨HO.out.2.1 rfl, by rw [← hre]; exact hm2⟩
                        clear hm hm2 hre
                        go_wp2
                        go_roundw
                        case rel => exact ⟨k + 1, q', _, L', _, by omega, by first | rfl | go_num, by go_num, ⟨by omega, by omega⟩, HNX.out⟩
                        case measure => simp [intOf]; omega
                      | false =>
                        cases p with
                        | true =>
                          have HNN : Hid (begunV S = none) := (HO.out.2.2 rfl).1 (HP.out.1 rfl)
                          have f2 := HO.out.1.ar.t2.fz
                          obtain ⟨p0, p1, p2, p3⟩ := HO.out.1.ar.c2
                          have HRT := Lib.hid HO.out.1.ar.ret0
                          repeat (first | go_values | go_skip | go_guarded | go_step | go_upon)
                          obtain ⟨W9, hW9⟩ : ∃ W9, W9 = retW wc w.heap.size (.slice none 0 0) 0 0 0 := ⟨_, rfl⟩
                          rw [← hW9] at HRT
                          unfold retW at hW9
                          rw [← hW9]
                          obtain ⟨r0, r1, r2, r3, r4, r5⟩ := HRT.out
                          clear hW9
                          refine bodyPost_ret (v := .tuple #[.agg #[(.slice none 0 0), .int .i64 0, .int .i64 0, .int .i64 0], .bool false]) (by simp only [results, areaRes]; go_simp) rfl ?_
                          exact ⟨r0, .inl ⟨HNN.out, 0, 0, 0, rfl⟩⟩
                        | false =>
                          have HFI : Hid (∃ q0 s0, begunV S = some (q0, s0) ∧ q0.epoch = b1 ∧ runV (s0.rest.length + 1) q0 s0 = (q', sc)) := (HO.out.2.2 rfl).2 (by
                            by_cases h : k < many
                            · have := HP.out.2 h
                              cases this
                            · omega)
                          have f2 := HO.out.1.ar.t2.fz
                          obtain ⟨p0, p1, p2, p3⟩ := HO.out.1.ar.c2
                          obtain ⟨q0, q1, q2, q3⟩ := HO.out.1.ar.c5
                          have HRT := Lib.hid HO.out.1.ar.ret
                          repeat (first | go_values | go_skip | go_guarded | go_step | go_upon)
                          obtain ⟨W9, hW9⟩ : ∃ W9, W9 = retW wc w.heap.size (.slice oj' nj' cj') b1 q'.next sc.read := ⟨_, rfl⟩
                          rw [← hW9] at HRT
                          unfold retW at hW9
                          rw [← hW9]
                          obtain ⟨r0, r1, r2, r3, r4, r5⟩ := HRT.out
                          clear hW9
                          refine bodyPost_ret (v := .tuple #[.agg #[(.slice oj' nj' cj'), .int .i64 b1, .int .i64 q'.next, .int .i64 sc.read], .bool true]) (by simp only [results, areaRes]; go_simp) rfl ?_
                          obtain ⟨qa, sa, g1, g2, g3⟩ := HFI.out
                          exact ⟨r0, .inr ⟨qa, sa, q', sc, _, g1, g3, by rw [g2], r1⟩⟩
                  · obtain rfl : nr = k := by omega
                    obtain ⟨q0, s0, f1, f2, f3⟩ := HR.out.1.fin HMR.out.1 (by rw [HNR.out])
                    have HFI : Hid (∃ q0 s0, begunV S = some (q0, s0) ∧ q0.epoch = b1 ∧ runV (s0.rest.length + 1) q0 s0 = (q, sc)) := ⟨q0, s0, f1, f2, f3⟩
                    have f5 := HR.out.2.ar.t2.fz
                    obtain ⟨p0, p1, p2, p3⟩ := HR.out.2.ar.c2
                    obtain ⟨q0, q1, q2, q3⟩ := HR.out.2.ar.c5
                    have HRT := Lib.hid HR.out.2.ar.ret
                    clear f1 f2 f3 hlt
                    repeat (first | go_values | go_skip | go_guarded | go_step | go_upon)
                    obtain ⟨W9, hW9⟩ : ∃ W9, W9 = retW wr w.heap.size (.slice oj nj cj) b1 q.next sc.read := ⟨_, rfl⟩
                    rw [← hW9] at HRT
                    unfold retW at hW9
                    rw [← hW9]
                    obtain ⟨r0, r1, r2, r3, r4, r5⟩ := HRT.out
                    clear hW9
                    refine bodyPost_ret (v := .tuple #[.agg #[.slice oj nj cj, .int .i64 b1, .int .i64 q.next, .int .i64 sc.read], .bool true]) (by simp only [results, areaRes]; go_simp) rfl ?_
                    obtain ⟨qa, sa, g1, g2, g3⟩ := HFI.out
                    exact ⟨r0, .inr ⟨qa, sa, q, sc, _, g1, g3, by rw [g2], r1⟩⟩
      · have t0 : ((strB x0).toList == [98, 101, 103, 105, 110]) = false := strNe.2 hbg
        have hno : begunV S = none := HNO.out (fun h => hbg (by rw [HX0.out]; exact h.word))
        have HNN := Lib.hid hno
        clear hbg hno
        go_upto_region 7 with fail
        go_quiet (fail)
        have HA5 := Lib.hid (HA4.out.drewN nq)
        clear f2 p0 p1 p2 p3 q0 q1 q2 q3 c9 h0 h1 h2 h3
        generalize w4.drewN nq = w5 at *
        have f2 := HA5.out.t2.fz
        obtain ⟨p0, p1, p2, p3⟩ := HA5.out.c2
        obtain ⟨q0, q1, q2, q3⟩ := HA5.out.c5
        have HRT := Lib.hid HA5.out.ret
        repeat (first | go_values | go_skip | go_guarded | go_step | go_upon)
        obtain ⟨W9, hW9⟩ : ∃ W9, W9 = retW w5 w.heap.size (.slice none 0 0) 0 0 0 := ⟨_, rfl⟩
        rw [← hW9] at HRT
        unfold retW at hW9
        rw [← hW9]
        obtain ⟨r0, r1, r2, r3, r4, r5⟩ := HRT.out
        clear hW9
        refine bodyPost_ret (v := .tuple #[.agg #[.slice none 0 0, .int .i64 0, .int .i64 0, .int .i64 0], .bool false]) (by simp only [results, areaRes]; go_simp) rfl ?_
        exact ⟨r0, .inl ⟨HNN.out, 0, 0, 0, rfl⟩⟩
    · have e5 : ((nh : Int) != 5) = true := by rw [bne_iff_ne]; omega
      have hno : begunV S = none := HNO.out (fun h => h5 (by rw [HNH.out]; exact h.len))
      have HNN := Lib.hid hno
      clear h5 hno
      go_upto_region 7 with fail
      go_quiet (fail)
      have HA5 := Lib.hid (HA4.out.drewN nq)
      clear f2 p0 p1 p2 p3 q0 q1 q2 q3 c9
      generalize w4.drewN nq = w5 at *
      have f2 := HA5.out.t2.fz
      obtain ⟨p0, p1, p2, p3⟩ := HA5.out.c2
      obtain ⟨q0, q1, q2, q3⟩ := HA5.out.c5
      have HRT := Lib.hid HA5.out.ret
      repeat (first | go_values | go_skip | go_guarded | go_step | go_upon)
      obtain ⟨W9, hW9⟩ : ∃ W9, W9 = retW w5 w.heap.size (.slice none 0 0) 0 0 0 := ⟨_, rfl⟩
      rw [← hW9] at HRT
      unfold retW at hW9
      rw [← hW9]
      obtain ⟨r0, r1, r2, r3, r4, r5⟩ := HRT.out
      clear hW9
      refine bodyPost_ret (v := .tuple #[.agg #[.slice none 0 0, .int .i64 0, .int .i64 0, .int .i64 0], .bool false]) (by simp only [results, areaRes]; go_simp) rfl ?_
      exact ⟨r0, .inl ⟨HNN.out, 0, 0, 0, rfl⟩⟩
end Go.Proofs.YtnnnihjagjfkdaaGreatDoor
