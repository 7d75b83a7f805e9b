/-
  PlanAssignShifted: its walk, over opened arguments. Own text.
-/
import Derived.Test.YtjggcnpnjnmamaaShiftV
namespace Go.Proofs.Ytjggcnpnjnmamaa
open Go.ChangeShapes Go.WideShapes Go.ChangeAt Go.RowKit
set_option linter.unusedVariables false
/-- A row, cloned. -/
theorem cloneRow {w : World} {b off m k : Nat} {rows : List (List Int)} (hx : Rows1 w 1 encInt (some ⟨b, off, none⟩) rows) (hG : GoodCosts rows m) (hk : k < rows.length) (hm : 0 < m) : ∃ ad cap, w.cell? ⟨b, off + k, none⟩ = some (.slice (some ad) m cap) ∧
    Calls Try.prog 21 #[.slice (some ad) m cap] w (RetCloneT m (fun j => cOf rows (k + 1) (j + 1)) w) := by
  obtain ⟨oa, cap, h1, h2, h3⟩ := hx.at hk
  have hl := hG.len k hk
  have hm12 := hG.n12
  obtain ⟨bk, offk, rfl, _⟩ := h3.int (i := 0) (by omega)
  rw [hl] at h1
  refine ⟨_, cap, h1, ?_⟩
  have h := cloneInts ⟨bk, offk, none⟩ rows[k] cap w (by omega) (by omega) h3
  rw [hl] at h
  refine h.mono ?_
  rintro e w' ⟨g, c, rfl, ha, hb⟩
  rw [hl]
  refine ⟨g, c, rfl, ⟨fun i hi => ?_, fun o => ha.frozen o⟩, ha.lt.1, ha.lt.2, hb⟩
  rw [ha.cell (by omega), cOf_at hk (by omega)]
theorem raiseTo {f c : Nat → Int} {q : Nat} {x : Int} (h : f q = x) (j : Nat) : (if j = q then x else if j < q then f j else c j) = if j < q + 1 then f j else c j := by
  by_cases e : j = q
  · subst e; rw [if_pos rfl, if_pos (by omega), h]
  · rw [if_neg e]
    by_cases e2 : j < q
    · rw [if_pos e2, if_pos (by omega)]
    · rw [if_neg e2, if_neg (by omega)]
theorem keepTo {f c : Nat → Int} {q : Nat} (h : f q = c q) (j : Nat) : (if j < q then f j else c j) = if j < q + 1 then f j else c j := by
  by_cases e : j = q
  · subst e; rw [if_neg (by omega), if_pos (by omega), h]
  · by_cases e2 : j < q
    · rw [if_pos e2, if_pos (by omega)]
    · rw [if_neg e2, if_neg (by omega)]
set_option maxHeartbeats 2000000 in
theorem shifted_bad (oa : Option Addr) (rows : List (List Int)) (cap : Nat) (j by' : Int) (w : World) (hm : rows.length ≤ maxLen) (hx : Rows1 w 1 encInt oa rows) (hc : costsErr rows ≠ 0) :
    Calls Try.prog 4 #[.slice oa rows.length cap, .int .i64 j, .int .i64 by'] w fun e w' => e = .returned (.bool true) ∧ Below w.heap.size w w' := by
  obtain ⟨E, hE⟩ : ∃ E, E = costsErr rows := ⟨_, rfl⟩
  have HA := Lib.hid (fun w1 (hb : Below w.heap.size w w1) => assign_bad oa rows cap w1 hm (hx.below hb) hc)
  have HC := Lib.hid (fun w1 (hb : Below w.heap.size w w1) => check_any oa rows cap w1 hm (hx.below hb))
  rw [← hE] at HA HC
  have h1 : (E != 0) = true := by rw [hE]; exact bne_iff_ne.2 hc
  have h2 : (E == E) = true := by simp
  unfold noPlan at HA
  clear hE hx hc
  go_enter Try.func4, Try.ntmps4
  go_wp2_with (first | (go_at_call 19; (with_reducible refine (plansK_any _).mono ?_); rintro e w1 ⟨rfl, hb1⟩; have HB1 := Lib.hid hb1; clear hb1) | (go_at_call 14; (with_reducible refine (HA.out _ HB1.out).mono ?_); rintro e w2 ⟨rfl, hb2⟩; have HB2 := Lib.hid (balloc (bthen HB1.out hb2) (.cells #[.slice none 0 0, .slice none 0 0, .slice none 0 0, .int .i64 0] 27)); clear hb2) | (go_at_call 16; (with_reducible refine (HC.out _ HB2.out).mono ?_); rintro e w' ⟨rfl, rfl⟩))
  go_ret
  exact ⟨rfl, HB2.out⟩
set_option maxRecDepth 100000 in
set_option maxHeartbeats 4000000 in
theorem shifted_ok (b off : Nat) (rows : List (List Int)) (cap N m : Nat) (jb by' : Int) (w : World) (hNN : N = rows.length) (hG : GoodCosts rows m) (hc : costsErr rows = 0) (hx : Rows1 w 1 encInt (some ⟨b, off, none⟩) rows) :
    Calls Try.prog 4 #[.slice (some ⟨b, off, none⟩) N cap, .int .i64 jb, .int .i64 by'] w fun e w' => e = .returned (.bool true) ∧ Below w.heap.size w w' := by
  have hm12 := hG.n12
  have hn1 := hG.r1
  have hrn := hG.rn
  rw [← hNN] at hn1 hrn
  have HX := Lib.hid hx
  have HG := Lib.hid hG
  have HNN := Lib.hid hNN
  have HA := Lib.hid (fun w1 (hb : Below w.heap.size w w1) => assign_ok b off rows cap N m w1 hNN (hx.below hb) hc hG)
  obtain ⟨a, ha⟩ : ∃ a : Nat, (a : Int) = wi jb 0 ((N : Int) - 1) := ⟨(wi jb 0 ((N : Int) - 1)).toNat, by have := wi_bd jb 0 ((N : Int) - 1) (by omega); omega⟩
  have haN : a < N := by have := wi_bd jb 0 ((N : Int) - 1) (by omega); omega
  obtain ⟨y, hy⟩ : ∃ y, y = wi by' 0 1000 := ⟨_, rfl⟩
  have hyb := wi_bd by' 0 1000 (by omega)
  rw [← hy] at hyb
  have HW1 := Lib.hid (fun w1 => within_any jb 0 ((N : Int) - 1) w1 (by omega) (by omega) (by omega))
  have HW2 := Lib.hid (fun w1 => within_any by' 0 1000 w1 (by omega) (by omega) (by omega))
  rw [← ha] at HW1
  rw [← hy] at HW2
  have hz1 : 0 < N := by omega
  have hz2 : 0 < m := by omega
  obtain ⟨f, hf⟩ : ∃ f : Nat → Nat → Int, f = (fun i j => cOf rows (i + 1) (j + 1) + if i = a then y else 0) := ⟨_, rfl⟩
  have HF := Lib.hid hf
  clear ha hy hNN hG hc hx hf
  go_enter Try.func4, Try.ntmps4
  go_wp2_with (first | (go_at_call 19; (with_reducible refine (plansK_any _).mono ?_); rintro e w1 ⟨rfl, hb1⟩; have HB1 := Lib.hid hb1; clear hb1) | (go_at_call 14; (with_reducible refine (HA.out _ HB1.out).mono ?_); rintro e w2 ⟨gp, gj, gf, cj, cf, u, v, pr, press, job, fee, cost, rfl, hP, hAt, hb2⟩; unfold planV; have HP := Lib.hid hP; have HB2 := Lib.hid (bthen HB1.out hb2); have HB3 := Lib.hid (balloc HB2.out (.cells #[.slice (some ⟨gp, 0, none⟩) N N, .slice (some ⟨gj, 0, none⟩) N cj, .slice (some ⟨gf, 0, none⟩) m cf, .int .i64 cost] 27)); clear hb2 hP hAt) | (go_at_call 20; (with_reducible refine (HW1.out _).mono ?_); rintro e w5 ⟨rfl, rfl⟩) | (go_at_call 20; (with_reducible refine (HW2.out _).mono ?_); rintro e w5 ⟨rfl, rfl⟩))
  obtain ⟨r0, r1, r2, r3, _⟩ := resCells (Below.refl _ (w2.alloc (.cells #[.slice (some ⟨gp, 0, none⟩) N N, .slice (some ⟨gj, 0, none⟩) N cj, .slice (some ⟨gf, 0, none⟩) m cf, .int .i64 cost] 27)))
  generalize w2.alloc (.cells #[.slice (some ⟨gp, 0, none⟩) N N, .slice (some ⟨gj, 0, none⟩) N cj, .slice (some ⟨gf, 0, none⟩) m cf, .int .i64 cost] 27) = w3 at *
  clear r0 r1 r2 HW1 HW2 HA
  go_loopw [9, 37] (fun s9 s37 wr => ∃ k : Nat, k ≤ N ∧ s37 = .int .i64 k ∧ Hid (Below w3.heap.size w3 wr ∧ (∃ vs, Own wr w3.heap.size 25 1 encV s9 vs ∧ Clones wr m k f vs ∧ (vs = [] → s9 = .slice none 0 0)) ∧ ∀ i j, i < k → j < m → f i j ≤ 1048576)) (fun _ s37 _ => N - (intOf s37).toNat)
  case atStart => exact ⟨0, by omega, rfl, Lib.hid ⟨Below.refl _ _, ⟨[], Own.nil _ _ _ _ _, ⟨rfl, fun i h => by simp at h⟩, fun _ => rfl⟩, fun i j h => by omega⟩⟩
  case round =>
    obtain ⟨k, hk, rfl, HW⟩ := hrel
    obtain ⟨hbw, ⟨vs, hown, hcl, hnil⟩, hfb⟩ := HW.out
    have HBW := Lib.hid hbw
    have HOWN := Lib.hid hown
    have HCL := Lib.hid hcl
    have HNIL := Lib.hid hnil
    have HFB := Lib.hid hfb
    clear HW hbw hown hcl hnil hfb
    by_cases hlt : k < N
    · obtain ⟨ad, capk, kc, hcall⟩ := cloneRow (HX.out.below (bthen HB3.out HBW.out)) HG.out (k := k) (by rw [← HNN.out]; exact hlt) hz2
      have HCA := Lib.hid hcall
      clear hcall
      obtain ⟨w4, rfl⟩ : ∃ w4 : World, w4 = wr := ⟨_, rfl⟩
      go_wp2_with (go_at_call 21; (with_reducible refine (HCA.out).mono ?_); rintro e w5 ⟨g, cg, rfl, ht5, lg1, lg2, hb5⟩; have HT5 := Lib.hid ht5; have HB5 := Lib.hid hb5; clear ht5 hb5)
      go_loopw [46] (fun s46 wi5 => ∃ q : Nat, q ≤ m ∧ s46 = .int .i64 q ∧ Hid (Below w4.heap.size w4 wi5 ∧ FTab (Value.int .i64) wi5 g m (fun j => if j < q then f k j else cOf rows (k + 1) (j + 1)) ∧ ∀ j, j < q → f k j ≤ 1048576) ∧ g < wi5.heap.size) (fun s46 _ => m - (intOf s46).toNat)
      case atStart => exact ⟨0, by omega, rfl, Lib.hid ⟨HB5.out, HT5.out.congr (fun j _ => (if_neg (by omega)).symm), fun j h => by omega⟩, lg2⟩
      case round =>
        obtain ⟨q, hq, rfl, HI, hgs⟩ := hrel
        by_cases hltq : q < m
        · have kg0 := HI.out.2.1.at' q hltq
          have kg : wr.cell? ⟨g, q, none⟩ = some (.int .i64 (cOf rows (k + 1) (q + 1))) := by rw [kg0, if_neg (by omega)]
          have zg := HI.out.2.1.fz q
          have hcx := HG.out.c (k + 1) (q + 1)
          have hfe : f k q = cOf rows (k + 1) (q + 1) + if k = a then y else 0 := by rw [HF.out]
          clear kg0
          by_cases hka : k = a
          · have e1 : ((k : Int) == (a : Int)) = true := by simp [hka]
            rw [if_pos hka] at hfe
            have HI2 : Hid (Below w4.heap.size w4 (wr.setCell ⟨g, q, none⟩ (.int .i64 (cOf rows (k + 1) (q + 1) + y))) ∧ FTab (Value.int .i64) (wr.setCell ⟨g, q, none⟩ (.int .i64 (cOf rows (k + 1) (q + 1) + y))) g m (fun j => if j < q + 1 then f k j else cOf rows (k + 1) (j + 1))) :=
              ⟨HI.out.1.setCell (p := ⟨g, q, none⟩) lg1 _, (HI.out.2.1.set hltq (cOf rows (k + 1) (q + 1) + y)).congr fun j _ => raiseTo (c := fun j => cOf rows (k + 1) (j + 1)) hfe j⟩
            have HFE := Lib.hid hfe
            generalize cOf rows (k + 1) (q + 1) = C at *
            clear hka hfe
            by_cases hbig : 1048576 < C + y
            · go_wp2
              go_ret
              exact ⟨rfl, bthen HB3.out (bthen HBW.out HI2.out.1)⟩
            · have HI3 : Hid (∀ j, j < q + 1 → f k j ≤ 1048576) := fun j hj => by
                by_cases e : j = q
                · subst e; rw [HFE.out]; omega
                · exact HI.out.2.2 j (by omega)
              go_wp2
              go_roundw
              case rel => exact ⟨q + 1, by omega, by go_num, Lib.hid ⟨HI2.out.1, HI2.out.2, HI3.out⟩, by simpa using hgs⟩
              case measure => simp [intOf]; omega
          · have e1 : ((k : Int) == (a : Int)) = false := by simp; omega
            rw [if_neg hka, Int.add_zero] at hfe
            have HI2 : Hid (FTab (Value.int .i64) wr g m (fun j => if j < q + 1 then f k j else cOf rows (k + 1) (j + 1))) := HI.out.2.1.congr fun j _ => keepTo (c := fun j => cOf rows (k + 1) (j + 1)) hfe j
            have HI3 : Hid (∀ j, j < q + 1 → f k j ≤ 1048576) := fun j hj => by
              by_cases e : j = q
              · subst e; rw [hfe]; omega
              · exact HI.out.2.2 j (by omega)
            generalize cOf rows (k + 1) (q + 1) = C at *
            clear hka hfe
            go_wp2
            go_roundw
            case rel => exact ⟨q + 1, by omega, by go_num, Lib.hid ⟨HI.out.1, HI2.out, HI3.out⟩, hgs⟩
            case measure => simp [intOf]; omega
        · obtain rfl : m = q := by omega
          have hT6 : FTab (Value.int .i64) wr g m (f k) := HI.out.2.1.congr fun j hj => if_pos hj
          have HT6 := Lib.hid hT6
          have HBR := Lib.hid (bthen HBW.out HI.out.1)
          have hown2 := (HOWN.out.below HI.out.1).alloc (.cells #[.slice (some ⟨g, 0, none⟩) m cg] 25)
          have HLEN := Lib.hid HCL.out.1
          clear hT6
          go_wp2_with (at_builtin; go_must (refine wpList_app1 rfl (.tmp 65) (.tmp 67) 22 rfl elemInts Try.underlying22 w3.heap.size _ _ encV rfl hown2 (.slice (some ⟨g, 0, none⟩) m cg) ⟨wr.heap.size, 0, none⟩ 1 rfl rfl ?c1 ?c2 ?c3 ?c4 ?c5 ?_))
          case c1 => exact cell_one_new _ _ _
          case c2 => simp [encV, Value.oneCell']
          case c3 => have := HLEN.out; omega
          case c4 => have := HLEN.out; unfold maxLen; omega
          case c5 => have := HBR.out.size; simp; omega
          intro v' w6 hown6 hg6
          have HW6 : Hid (Below w3.heap.size w3 w6 ∧ (∃ vs, Own w6 w3.heap.size 25 1 encV v' vs ∧ Clones w6 m (k + 1) f vs ∧ (vs = [] → v' = .slice none 0 0)) ∧ ∀ i j, i < k + 1 → j < m → f i j ≤ 1048576) := by
            have hc1 := (HCL.out.below HI.out.1).below (balloc (Below.refl _ wr) (.cells #[.slice (some ⟨g, 0, none⟩) m cg] 25))
            have ht1 := HT6.out.alloc hgs (.cells #[.slice (some ⟨g, 0, none⟩) m cg] 25)
            have hne := own_apart hown2 HNIL.out hc1.slices ht1 hz2
            have hgl : g < (wr.alloc (.cells #[.slice (some ⟨g, 0, none⟩) m cg] 25)).heap.size := by rw [World.size_alloc]; omega
            have ht2 := ht1.sameBlock (hg6.block g hgl (fun e => hne e.symm))
            refine ⟨hown2.grown (balloc HBR.out _) (Nat.le_refl _) hg6, ⟨_, hown6, (hc1.grown hz2 hown2 HNIL.out hg6).snoc ht2 (Nat.lt_of_lt_of_le hgl hg6.size), fun e => by simp at e⟩, fun i j hi hj => ?_⟩
            by_cases e : i = k
            · subst e; exact HI.out.2.2 j hj
            · exact HFB.out i j (by omega) hj
          clear hown6 hg6 hown2
          go_wp2
          go_roundw
          case rel => exact ⟨k + 1, by omega, by go_num, HW6⟩
          case measure => simp [intOf]; omega
    · obtain rfl : N = k := by omega
      obtain ⟨go', co, rfl, hR⟩ := HCL.out.rows hm12 hn1 HOWN.out
      have hgood := tabF_good (f := f) hn1 hrn hm12 (fun i j hi hj => ⟨by
        rw [HF.out]
        have := HG.out.c (i + 1) (j + 1)
        show 0 ≤ cOf rows (i + 1) (j + 1) + if i = a then y else 0
        split <;> omega, HFB.out i j hi hj⟩)
      have HA2 := Lib.hid (assign_ok go' 0 (tabF N m f) co N m wr (tabF_length N m f).symm hR hgood.2 hgood.1)
      have hcb : 0 ≤ cost ∧ cost ≤ 12582912 := by
        have h3 := HP.out.asg hrn HG.out.c
        have h4 := asg_bd (N := N) HG.out.c (f := N) (used := fun _ => false) (m := m) (by rw [freeN_none]; exact hrn)
        omega
      clear hR hgood
      go_wp2_with fail
      (with_reducible refine (HA2.out).mono ?_)
      rintro e w7 ⟨gp2, gj2, gf2, cj2, cf2, u2, v2, pr2, press2, job2, fee2, cost2, rfl, hP2, hAt2, hb7⟩
      unfold planV
      have hpr : cost2 = cost + y := plan_raise haN HP.out (by rw [HF.out] at hP2; exact hP2)
      subst hpr
      have z3 := keepCell (balloc (bthen HBW.out hb7) (.cells #[.slice (some ⟨gp2, 0, none⟩) N N, .slice (some ⟨gj2, 0, none⟩) N cj2, .slice (some ⟨gf2, 0, none⟩) m cf2, .int .i64 (cost + y)] 27)) r3
      have e9 : (cost + y == cost + y) = true := by simp
      have HB7 := Lib.hid (balloc (bthen HB3.out (bthen HBW.out hb7)) (.cells #[.slice (some ⟨gp2, 0, none⟩) N N, .slice (some ⟨gj2, 0, none⟩) N cj2, .slice (some ⟨gf2, 0, none⟩) m cf2, .int .i64 (cost + y)] 27))
      clear hP2 hAt2 hb7
      go_wp2
      go_ret
      exact ⟨rfl, HB7.out⟩
theorem shifted_law (v : Value) {w : World} (hv : RowsArg w v) (j : Int) (_ : i64ok j) (by' : Int) (_ : i64ok by') :
    Calls Try.prog 4 #[v, .int .i64 j, .int .i64 by'] w fun e w' => e = .returned (.bool true) ∧ Below w.heap.size w w' := by
  obtain ⟨rows, oa, cap, rfl, hm, _, _, hx, _⟩ := hv
  by_cases hc : costsErr rows = 0
  · obtain ⟨m, hG⟩ := GoodCosts.of hc
    obtain ⟨b, off, rfl⟩ := hx.some hG.r1
    exact shifted_ok b off rows cap rows.length m j by' w rfl hG hc hx
  · exact shifted_bad oa rows cap j by' w hm hx hc
end Go.Proofs.Ytjggcnpnjnmamaa
