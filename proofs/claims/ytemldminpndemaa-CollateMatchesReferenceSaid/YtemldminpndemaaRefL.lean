/-
  The walk of CollateMatchesReference. Own text.
-/
import Derived.Test.YtemldminpndemaaRefV
import Derived.Test.YtemldminpndemaaRowsB
namespace Go.Proofs.Ytemldminpndemaa
open Go.RowKit
set_option linter.unusedVariables false
/-- A report's cells, of any lengths. -/
abbrev repD (og : Option Addr) (N cg : Nat) (op : Option Addr) (cp : Nat) (o0 : Option Addr) (n0 c0 : Nat) (c : Nat) (n : Nat) (o1 : Option Addr) (c1 : Nat) (o2 : Option Addr) (c2 : Nat) (o3 : Option Addr) (c3 : Nat) : Array Value := repC og N cg op cp o0 n0 c0 c n o1 c1 o2 c2 o3 c3
/-- What Run leaves, good or bad. -/
structure Good (fs : List (List Pt)) (F : List Ft) (w w' : World) (og : Option Addr) (N cg : Nat) (op : Option Addr) (cp : Nat) (o0 : Option Addr) (n0 c0 : Nat) (c : Nat) (n : Nat) (o1 : Option Addr) (c1 : Nat) (o2 : Option Addr) (c2 : Nat) (o3 : Option Addr) (c3 : Nat) (a : Nat → Nat) (g : List Int) (p : List (List Int)) (rv : List Value) (Z : Nat) : Prop where
  run : Runs fs F 0 (fun _ => 0) [] [] c a g p
  rep : Rep w' Z (.slice og N cg) (.slice op N cp) rv g p
  hN : N = g.length
  hn : n = fs.length
  hn0 : n0 = (finX fs g a 0).length
  m0 : Own w' Z 3 1 encInt (.slice o0 n0 c0) (finX fs g a 0)
  m1 : Own w' Z 3 1 encInt (.slice o1 n c1) (usedTo a fs.length)
  m2 : Own w' Z 3 1 encInt (.slice o2 n c2) (wstTo a g.length fs.length)
  m3 : Own w' Z 3 1 encInt (.slice o3 n c3) (lftTo fs a fs.length)
def madeAny (g : List Int) (x : Int) (k : Nat) : Bool := (g.take k).any fun y => y == x
theorem madeAny_succ (g : List Int) (x : Int) (k : Nat) (h : k < g.length) : madeAny g x (k + 1) = (madeAny g x k || (g[k] == x)) := by
  unfold madeAny
  rw [List.take_succ_eq_append_getElem h, List.any_append]
  simp
theorem madeAny_all (g : List Int) (x : Int) : madeAny g x g.length = g.contains x := by
  unfold madeAny
  rw [List.take_length]
  induction g with
  | nil => rfl
  | cons y g ih => rw [List.any_cons, List.contains_cons, ih, Bool.beq_comm]
def rowKnown (l : List Pt) (x : Int) (k : Nat) : Bool := (l.take k).any fun y => y.copy == x
theorem rowKnown_succ (l : List Pt) (x : Int) (k : Nat) (h : k < l.length) : rowKnown l x (k + 1) = (rowKnown l x k || (l[k].copy == x)) := by
  unfold rowKnown
  rw [List.take_succ_eq_append_getElem h, List.any_append]
  simp
def fsKnown (fs : List (List Pt)) (x : Int) (k : Nat) : Bool := (fs.take k).any fun l => l.any fun y => y.copy == x
theorem fsKnown_succ (fs : List (List Pt)) (x : Int) (k : Nat) (h : k < fs.length) : fsKnown fs x (k + 1) = (fsKnown fs x k || rowKnown fs[k] x fs[k].length) := by
  unfold fsKnown rowKnown
  rw [List.take_succ_eq_append_getElem h, List.any_append, List.take_length]
  simp
theorem fsKnown_all (fs : List (List Pt)) (x : Int) : fsKnown fs x fs.length = known fs x := by
  unfold fsKnown known
  rw [List.take_length]
set_option maxRecDepth 100000 in
set_option maxHeartbeats 16000000 in
theorem matches_any (fs : List (List Pt)) (F : List Ft) (oa : Option Addr) (so : Nat → Option Addr) (sc : Nat → Nat) (ca : Nat) (oF : Option Addr) (cF : Nat) (w : World) (hA : Args w fs oa so sc) (hm : fs.length ≤ maxLen) (hs : ∀ k, k < fs.length → ln fs k ≤ sc k) (hF : Flat w 3 encFt oF F) (hFm : F.length ≤ maxLen) (hFc : F.length ≤ cF) (hF0 : oF = none → cF = 0) :
    Calls Try.prog 3 #[.slice oa fs.length ca, .slice oF F.length cF] w (RetTrue w) := by
  have HC : Hid (Calls Try.prog 8 #[] w (RetTrue w)) := collatesL_any w
  have HR : Hid (∀ w1, Below w.heap.size w w1 → Calls Try.prog 9 #[.slice oa fs.length ca, .slice oF F.length cF] w1 (RetAll fs F (runErr fs F) w1)) := fun w1 hb => run_any fs F oa so sc ca oF cF w1 (hA.below hb) hm (hF.below hb) hFm hFc hF0 _ rfl
  have HFE : Hid (∀ w1, Below w.heap.size w w1 → Calls Try.prog 10 #[.slice oa fs.length ca] w1 fun e w' => e = .returned (.int .i64 (checkV fs)) ∧ Below w1.heap.size w1 w') := fun w1 hb => feedersError_any fs oa so sc ca w1 (hA.below hb) hm hs
  have HCK : Hid (∀ w1, Below w.heap.size w w1 → Calls Try.prog 11 #[.slice oa fs.length ca] w1 fun e w' => e = .returned (.int .i64 (checkV fs)) ∧ Below w1.heap.size w1 w') := fun w1 hb => check_any fs oa so sc ca w1 (hA.below hb) hm
  have HCO : Hid (∀ w1 C A G P, Below w.heap.size w w1 → FeedOk fs → F.length ≤ 512 → Runs fs F 0 (fun _ => 0) [] [] C A G P → Calls Try.prog 13 #[.slice oa fs.length ca, .slice oF F.length cF] w1 (RetColl C G P w1)) := fun w1 C A G P hb hok hl hr => collated_any oa so sc ca oF cF w1 (hA.below hb) (hF.below hb) hok hl hr
  have HA := Lib.hid hA
  have HF := Lib.hid hF
  have HCV : Hid (runErr fs F = if checkV fs = 0 then (if 512 < F.length then 2 else fltScan fs.length [] F) else checkV fs) := rfl
  obtain ⟨E, hE⟩ : ∃ E, E = runErr fs F := ⟨_, rfl⟩
  obtain ⟨V, hV⟩ : ∃ V, V = checkV fs := ⟨_, rfl⟩
  obtain ⟨n, hn⟩ : ∃ n, n = fs.length := ⟨_, rfl⟩
  obtain ⟨M, hM⟩ : ∃ M, M = F.length := ⟨_, rfl⟩
  have HN := Lib.hid hn
  have HM := Lib.hid hM
  have HE := Lib.hid hE
  have hnm : n ≤ 9223372036854775807 := by rw [hn]; unfold maxLen at hm; omega
  have hMm : M ≤ 9223372036854775807 := by rw [hM]; unfold maxLen at hFm; omega
  have hMc : M ≤ cF := by rw [hM]; exact hFc
  rw [← hE] at HR HCV
  rw [← hV] at HFE HCK HCV
  rw [← hn] at HR HFE HCK HCO HCV ⊢
  rw [← hM] at HR HCO HCV ⊢
  clear hA hm hs hF hFm hFc hF0 hE hV hn hM
  go_enter Try.func3, Try.ntmps3
  go_wp2_with fail
  refine HC.out.mono ?_
  rintro e w1 ⟨rfl, hb1⟩
  have HB1 := Lib.hid hb1
  clear hb1 HC
  go_wp2_with fail
  refine (HR.out w1 HB1.out).mono ?_
  rintro e w2 h
  obtain ⟨og, N, cg, op, cpq, o0, n0, c0, c, n1, o1, c1, o2, c2, o3, c3, rfl, hb, hgb⟩ : ∃ (og : Option Addr) (N cg : Nat) (op : Option Addr) (cp : Nat) (o0 : Option Addr) (n0 c0 : Nat) (c n1 : Nat) (o1 : Option Addr) (c1 : Nat) (o2 : Option Addr) (c2 : Nat) (o3 : Option Addr) (c3 : Nat), e = .returned (.tuple #[.agg (repC og N cg op cp o0 n0 c0 c n1 o1 c1 o2 c2 o3 c3), .int .i64 E]) ∧ Below w1.heap.size w1 w2 ∧
      ((E ≠ 0 ∧ N = 0 ∧ n0 = 0 ∧ c = 0 ∧ n1 = 0) ∨ (E = 0 ∧ ∃ a g p rv Z, Good fs F w1 w2 og N cg op cp o0 n0 c0 c n1 o1 c1 o2 c2 o3 c3 a g p rv Z)) := by
    rcases h with ⟨h0, rfl, hb⟩ | ⟨h0, h⟩
    · exact ⟨none, 0, 0, none, 0, none, 0, 0, 0, 0, none, 0, none, 0, none, 0, rfl, hb, .inl ⟨h0, rfl, rfl, rfl, rfl⟩⟩
    · obtain ⟨c, a, g, p, og, cg, op, cpq, o0, n0, c0, o1, c1, o2, c2, o3, c3, rv, Z, rfl, hr, hrep, hn0, w0, w1', w2', w3', hZ, hb⟩ := run_ret h
      exact ⟨og, _, cg, op, cpq, o0, n0, c0, c, _, o1, c1, o2, c2, o3, c3, by rw [h0], hb, .inr ⟨h0, a, g, p, rv, Z, hr, hrep, rfl, rfl, hn0, w0, w1', w2', w3'⟩⟩
  have HGB := Lib.hid hgb
  have HB2 : Hid (Below w.heap.size w w2) := HB1.out.trans (hb.mono HB1.out.size)
  have HCELL : Hid (∀ i v, (repC og N cg op cpq o0 n0 c0 c n1 o1 c1 o2 c2 o3 c3)[i]? = some v → (w2.alloc (.cells (repC og N cg op cpq o0 n0 c0 c n1 o1 c1 o2 c2 o3 c3) 28)).cell? ⟨w2.heap.size, i, none⟩ = some v) := fun i v hv => by
    rw [cell_of_row _ w2.heap.size i _ _ (0, 0) (heap_alloc_new w2 _)]
    exact hv
  have HSZ : Hid ((w2.alloc (.cells (repC og N cg op cpq o0 n0 c0 c n1 o1 c1 o2 c2 o3 c3) 28)).heap.size = w2.heap.size + 1) := World.size_alloc _ _
  have HB23 : Hid (Below w2.heap.size w2 (w2.alloc (.cells (repC og N cg op cpq o0 n0 c0 c n1 o1 c1 o2 c2 o3 c3) 28))) := balloc (Below.refl _ _) _
  clear h hb hgb HB1
  go_wp2_with fail
  refine (HFE.out _ (HB2.out.trans (HB23.out.mono HB2.out.size))).mono ?_
  rintro e w4 ⟨rfl, hb4⟩
  generalize w2.alloc (.cells (repC og N cg op cpq o0 n0 c0 c n1 o1 c1 o2 c2 o3 c3) 28) = w3 at *
  generalize hrb : w2.heap.size = rb at *
  have HRBE := Lib.hid hrb
  have HB24 : Hid (Below rb w2 w4) := HB23.out.trans (hb4.mono (by have := HSZ.out; omega))
  have HCELL4 : Hid (∀ i v, (repC og N cg op cpq o0 n0 c0 c n1 o1 c1 o2 c2 o3 c3)[i]? = some v → w4.cell? ⟨rb, i, none⟩ = some v) := fun i v hv => keepCell hb4 (HCELL.out i v hv)
  have hr4 : rb < w4.heap.size := by have := hb4.size; have := HSZ.out; omega
  have HBW4 : Hid (Below w.heap.size w w4) := HB2.out.trans (HB24.out.mono (by have := HB2.out.size; omega))
  clear hb4 hrb HB23 HCELL HSZ HFE HR
  go_wp2_with fail
  refine (HCK.out _ HBW4.out).mono ?_
  rintro e w5 ⟨rfl, hb5⟩
  have HB45 := Lib.hid hb5
  have HBW5 : Hid (Below w.heap.size w w5) := HBW4.out.trans (hb5.mono HBW4.out.size)
  have HCELL5 : Hid (∀ i v, (repC og N cg op cpq o0 n0 c0 c n1 o1 c1 o2 c2 o3 c3)[i]? = some v → w5.cell? ⟨rb, i, none⟩ = some v) := fun i v hv => keepCell hb5 (HCELL4.out i v hv)
  have hr5 : rb < w5.heap.size := by have := hb5.size; omega
  clear hb5 HCELL4 HCK
  have hVV : (V != V) = false := by simp
  -- the error of the feeders, or too many faults
  by_cases hV0 : V = 0
  · subst hV0
    by_cases hM5 : 512 < M
    · have hMi : (512 : Int) < (M : Int) := by omega
      have e00 : ((0 : Int) == 0) = true := rfl
      have HEV : Hid (E = 2) := by
        have h := HCV.out
        rw [if_pos rfl, if_pos hM5] at h
        exact h
      have hE0 : E ≠ 0 := by rw [HEV.out]; decide
      go_wp2
      go_loopw [7, 8] (fun f i wr => i = .int .i64 0 ∧ f = .int .i64 E ∧ w5 = wr) (fun _ _ _ => 0)
      case atStart => exact ⟨rfl, by rw [HEV.out], rfl⟩
      case round =>
        obtain ⟨rfl, rfl, rfl⟩ := hrel
        obtain ⟨wr, rfl⟩ : ∃ wr : World, wr = w5 := ⟨_, rfl⟩
        have HCX := HCELL5
        have HBX := HBW5
        have he0 : (E == 0) = false := by simpa using hE0
        have hE1 := Lib.hid hE0
        have key : Hid (E ≠ 0) := hE0
        rcases Nat.eq_zero_or_pos M with hM0 | hM0
        · have hm0 : ¬ (0 : Int) < (M : Int) := by omega
          omega
        · have hm0 : (0 : Int) < (M : Int) := by omega
          have hbb : N = 0 ∧ n0 = 0 ∧ c = 0 ∧ n1 = 0 := by
            rcases HGB.out with ⟨_, h⟩ | ⟨h, _⟩
            · exact h
            · exact absurd h hE0
          obtain ⟨rfl, rfl, rfl, rfl⟩ := hbb
          have b0 : wr.cell? ⟨rb, 0, none⟩ = some (.slice og 0 cg) := HCX.out 0 _ rfl
          have b1 : wr.cell? ⟨rb, 1, none⟩ = some (.slice op 0 cpq) := HCX.out 1 _ rfl
          have b2 : wr.cell? ⟨rb, 2, none⟩ = some (.slice o0 0 c0) := HCX.out 2 _ rfl
          have b3 : wr.cell? ⟨rb, 3, none⟩ = some (.int .i64 0) := HCX.out 3 _ rfl
          have b4 : wr.cell? ⟨rb, 4, none⟩ = some (.slice o1 0 c1) := HCX.out 4 _ rfl
          have b5 : wr.cell? ⟨rb, 5, none⟩ = some (.slice o2 0 c2) := HCX.out 5 _ rfl
          have b6 : wr.cell? ⟨rb, 6, none⟩ = some (.slice o3 0 c3) := HCX.out 6 _ rfl
          have hee : (E == E) = true := by simp
          have hen : (E != 0) = true := by simpa using hE0
          clear hE0
          go_wp2
          go_ret
          exact ⟨rfl, HBX.out⟩
    · have hMi : ¬ (512 : Int) < (M : Int) := by omega
      have e00 : ((0 : Int) == 0) = true := rfl
      have HES : Hid (E = fltScan n [] F) := by
        have h := HCV.out
        rw [if_pos rfl, if_neg hM5] at h
        exact h
      clear HCV
      go_wp2
      go_loopw [7, 8] (fun f i wr => ∃ (q : Nat) (fe : Int), q ≤ M ∧ i = .int .i64 q ∧ f = .int .i64 fe ∧ Hid (Below w5.heap.size w5 wr) ∧ Hid ((fe = 0 ∧ E = fltScan n (F.take q) (F.drop q)) ∨ (fe ≠ 0 ∧ E = fe))) (fun _ i _ => M - (intOf i).toNat)
      case atStart => exact ⟨0, 0, by omega, rfl, rfl, Below.refl _ _, .inl ⟨rfl, HES.out⟩⟩
      case round =>
        clear HES
        obtain ⟨q, fe, hq, rfl, rfl, HB56, HST⟩ := hrel
        have HBX : Hid (Below w.heap.size w wr) := HBW5.out.trans (HB56.out.mono HBW5.out.size)
        have HCX : Hid (∀ i v, (repC og N cg op cpq o0 n0 c0 c n1 o1 c1 o2 c2 o3 c3)[i]? = some v → wr.cell? ⟨rb, i, none⟩ = some v) := fun i v hv => keepCell HB56.out (HCELL5.out i v hv)
        by_cases hfe : fe = 0
        · subst hfe
          have hz0 : ((0 : Int) == 0) = true := rfl
          have HSC : Hid (E = fltScan n (F.take q) (F.drop q)) := by
            rcases HST.out with ⟨_, h⟩ | ⟨h, _⟩
            · exact h
            · exact absurd rfl h
          clear HST
          by_cases hqt : q < M
          · have hqx : q < F.length := by have := HM.out; omega
            obtain ⟨w6, rfl⟩ : ∃ w6 : World, w6 = wr := ⟨_, rfl⟩
            have HBW6 := HBX
            obtain ⟨bf, of', hof, i0, i1, i2⟩ := (HF.out.below HBX.out).ft hqx
            have HOFF := Lib.hid hof
            rw [hof]
            have HSTEP : Hid (E = if stepE n F[q] (F.take q) = 0 then fltScan n (F.take (q + 1)) (F.drop (q + 1)) else stepE n F[q] (F.take q)) := by
              show _ = _
              rw [← fltScan_step n F q hqx]
              exact HSC.out
            obtain ⟨x, hx⟩ : ∃ x, x = F[q] := ⟨_, rfl⟩
            rw [← hx] at i0 i1 i2 HSTEP
            obtain ⟨xc, xf, xd⟩ := x
            dsimp only at i0 i1 i2
            have qd : (q : Int) < (M : Int) := by omega
            have q0 : (0 : Int) ≤ (q : Int) := by omega
            have qc : q ≤ cF := by omega
            have x1 : IntKind.i64.wrap ((n : Int) - 1) = (n : Int) - 1 := IntWalk.i64_in _ (by omega)
            have HX0 : Hid (Below w6.heap.size w6 (w6.alloc (.cells #[.int .i64 xc, .int .i64 xf, .bool xd] 34)) ∧ (w6.alloc (.cells #[.int .i64 xc, .int .i64 xf, .bool xd] 34)).cell? ⟨w6.heap.size, 0, none⟩ = some (.int .i64 xc) ∧ (w6.alloc (.cells #[.int .i64 xc, .int .i64 xf, .bool xd] 34)).cell? ⟨w6.heap.size, 1, none⟩ = some (.int .i64 xf)) := by
              refine ⟨balloc (Below.refl _ _) _, ?_, ?_⟩
              · rw [cell_of_row _ w6.heap.size 0 _ _ (0, 0) (heap_alloc_new w6 _)]; rfl
              · rw [cell_of_row _ w6.heap.size 1 _ _ (0, 0) (heap_alloc_new w6 _)]; rfl
            have HI1 := Lib.hid (in_any xc 0 511)
            have HI2 := Lib.hid (in_any xf 0 ((n : Int) - 1))
            clear hx hof HSC
            by_cases h1 : 0 ≤ xc ∧ xc ≤ 511
            · rw [inB_yes h1.1 h1.2] at HI1
              by_cases h2 : 0 ≤ xf ∧ xf ≤ (n : Int) - 1
              · rw [inB_yes h2.1 h2.2] at HI2
                have HSTL : Hid (stepE n ⟨xc, xf, xd⟩ (F.take 0) = 0) := by
                  show _ = _
                  rw [List.take_zero, stepE_zero, if_neg (by unfold badF; simp only; omega)]
                clear h1 h2
                go_wp2_with fail
                refine (HI1.out _).mono ?_
                rintro e w7 ⟨rfl, rfl⟩
                go_wp2_with fail
                refine (HI2.out _).mono ?_
                rintro e w7 ⟨rfl, rfl⟩
                go_wp2
                go_loopw [7, 80] (fun f i wr => ∃ j : Nat, j ≤ q ∧ i = .int .i64 j ∧ f = .int .i64 (stepE n ⟨xc, xf, xd⟩ (F.take j)) ∧ Hid (Below w6.heap.size w6 wr ∧ wr.cell? ⟨w6.heap.size, 0, none⟩ = some (.int .i64 xc) ∧ wr.cell? ⟨w6.heap.size, 1, none⟩ = some (.int .i64 xf))) (fun _ i _ => q - (intOf i).toNat)
                case atStart => exact ⟨0, by omega, rfl, by rw [HSTL.out], HX0.out⟩
                case round =>
                  clear HX0 HSTL
                  obtain ⟨j, hj, rfl, rfl, HY⟩ := hrel
                  have x0 := HY.out.2.1
                  have x1 := HY.out.2.2
                  have hxl : w6.heap.size < wr.heap.size := cell?_lt x0
                  by_cases hjt : j < q
                  · have hjx : j < F.length := by omega
                    obtain ⟨b9, o9, e9, y0, y1, y2⟩ := (HF.out.below (HBW6.out.trans (HY.out.1.mono HBW6.out.size))).ft hjx
                    rw [HOFF.out] at e9
                    simp only [Option.some.injEq, Addr.mk.injEq, and_true] at e9
                    obtain ⟨rfl, rfl⟩ := e9
                    have HSS := Lib.hid (stepE_succ n ⟨xc, xf, xd⟩ F j hjx)
                    obtain ⟨y, hy⟩ : ∃ y, y = F[j] := ⟨_, rfl⟩
                    rw [← hy] at y0 y1 y2 HSS
                    obtain ⟨yc, yf, yd⟩ := y
                    dsimp only at y0 y1 y2
                    have jd : (j : Int) < (q : Int) := by omega
                    have j0 : (0 : Int) ≤ (j : Int) := by omega
                    have HYN : Hid (Below w6.heap.size w6 (wr.alloc (.cells #[.int .i64 yc, .int .i64 yf, .bool yd] 34)) ∧ (wr.alloc (.cells #[.int .i64 yc, .int .i64 yf, .bool yd] 34)).cell? ⟨w6.heap.size, 0, none⟩ = some (.int .i64 xc) ∧ (wr.alloc (.cells #[.int .i64 yc, .int .i64 yf, .bool yd] 34)).cell? ⟨w6.heap.size, 1, none⟩ = some (.int .i64 xf)) :=
                      ⟨HY.out.1.alloc HY.out.1.size _, keepCell (balloc (Below.refl _ _) _) x0, keepCell (balloc (Below.refl _ _) _) x1⟩
                    obtain ⟨st, hst⟩ : ∃ st, st = stepE n ⟨xc, xf, xd⟩ (F.take j) := ⟨_, rfl⟩
                    rw [← hst] at HSS ⊢
                    clear hy hst
                    by_cases hz : st = 0
                    · subst hz
                      have e0 : ((0 : Int) == 0) = true := rfl
                      by_cases h1 : xc = yc
                      · have e1 : (xc == yc) = true := by simpa using h1
                        by_cases h2 : xf = yf
                        · have e2 : (xf == yf) = true := by simpa using h2
                          have HS7 : Hid (stepE n ⟨xc, xf, xd⟩ (F.take (j + 1)) = 7) := by
                            have h := HSS.out
                            rw [if_pos ⟨rfl, by simp [sameF, h1, h2]⟩] at h
                            exact h
                          clear HSS h1 h2
                          go_wp2
                          go_roundw
                          case rel => exact ⟨j + 1, by omega, by go_num, (by rw [HS7.out]), HYN⟩
                          case measure => simp [intOf]; omega
                        · have e2 : (xf == yf) = false := by simpa using h2
                          have HS7 : Hid (stepE n ⟨xc, xf, xd⟩ (F.take (j + 1)) = 0) := by
                            have h := HSS.out
                            rw [if_neg (by rintro ⟨_, h3⟩; simp [sameF] at h3; exact h2 h3.2.symm)] at h
                            exact h
                          clear HSS h1 h2
                          go_wp2
                          go_roundw
                          case rel => exact ⟨j + 1, by omega, by go_num, (by rw [HS7.out]), HYN⟩
                          case measure => simp [intOf]; omega
                      · have e1 : (xc == yc) = false := by simpa using h1
                        have HS7 : Hid (stepE n ⟨xc, xf, xd⟩ (F.take (j + 1)) = 0) := by
                          have h := HSS.out
                          rw [if_neg (by rintro ⟨_, h3⟩; simp [sameF] at h3; exact h1 h3.1.symm)] at h
                          exact h
                        clear HSS h1
                        go_wp2
                        go_roundw
                        case rel => exact ⟨j + 1, by omega, by go_num, (by rw [HS7.out]), HYN⟩
                        case measure => simp [intOf]; omega
                    · have e0 : (st == 0) = false := by simpa using hz
                      have HS7 : Hid (stepE n ⟨xc, xf, xd⟩ (F.take (j + 1)) = st) := by
                        have h := HSS.out
                        rw [if_neg (by rintro ⟨h3, _⟩; exact hz h3)] at h
                        exact h
                      clear HSS hz
                      go_wp2
                      go_roundw
                      case rel => exact ⟨j + 1, by omega, by go_num, (by rw [HS7.out]), HYN⟩
                      case measure => simp [intOf]; omega
                  · obtain rfl : q = j := by omega
                    have HNB : Hid (Below w5.heap.size w5 wr) := HB56.out.trans (HY.out.1.mono HB56.out.size)
                    have HNS : Hid ((stepE n ⟨xc, xf, xd⟩ (F.take q) = 0 ∧ E = fltScan n (F.take (q + 1)) (F.drop (q + 1))) ∨ (stepE n ⟨xc, xf, xd⟩ (F.take q) ≠ 0 ∧ E = stepE n ⟨xc, xf, xd⟩ (F.take q))) := by
                      have h := HSTEP.out
                      by_cases hz : stepE n ⟨xc, xf, xd⟩ (F.take q) = 0
                      · rw [if_pos hz] at h
                        exact .inl ⟨hz, h⟩
                      · rw [if_neg hz] at h
                        exact .inr ⟨hz, h⟩
                    clear x0 x1 HY
                    obtain ⟨st, hst⟩ : ∃ st, st = stepE n ⟨xc, xf, xd⟩ (F.take q) := ⟨_, rfl⟩
                    rw [← hst] at HNS ⊢
                    clear hst
                    go_wp2
                    go_roundw
                    case rel => exact ⟨q + 1, st, by omega, by go_num, rfl, HNB, HNS⟩
                    case measure => simp [intOf]; omega
              · rw [inB_no h2] at HI2
                have HSTL : Hid (stepE n ⟨xc, xf, xd⟩ (F.take 0) = 3) := by
                  show _ = _
                  rw [List.take_zero, stepE_zero, if_pos (by unfold badF; simp only; omega)]
                clear h1 h2
                go_wp2_with fail
                refine (HI1.out _).mono ?_
                rintro e w7 ⟨rfl, rfl⟩
                go_wp2_with fail
                refine (HI2.out _).mono ?_
                rintro e w7 ⟨rfl, rfl⟩
                go_wp2
                go_loopw [7, 80] (fun f i wr => ∃ j : Nat, j ≤ q ∧ i = .int .i64 j ∧ f = .int .i64 (stepE n ⟨xc, xf, xd⟩ (F.take j)) ∧ Hid (Below w6.heap.size w6 wr ∧ wr.cell? ⟨w6.heap.size, 0, none⟩ = some (.int .i64 xc) ∧ wr.cell? ⟨w6.heap.size, 1, none⟩ = some (.int .i64 xf))) (fun _ i _ => q - (intOf i).toNat)
                case atStart => exact ⟨0, by omega, rfl, by rw [HSTL.out], HX0.out⟩
                case round =>
                  clear HX0 HSTL
                  obtain ⟨j, hj, rfl, rfl, HY⟩ := hrel
                  have x0 := HY.out.2.1
                  have x1 := HY.out.2.2
                  have hxl : w6.heap.size < wr.heap.size := cell?_lt x0
                  by_cases hjt : j < q
                  · have hjx : j < F.length := by omega
                    obtain ⟨b9, o9, e9, y0, y1, y2⟩ := (HF.out.below (HBW6.out.trans (HY.out.1.mono HBW6.out.size))).ft hjx
                    rw [HOFF.out] at e9
                    simp only [Option.some.injEq, Addr.mk.injEq, and_true] at e9
                    obtain ⟨rfl, rfl⟩ := e9
                    have HSS := Lib.hid (stepE_succ n ⟨xc, xf, xd⟩ F j hjx)
                    obtain ⟨y, hy⟩ : ∃ y, y = F[j] := ⟨_, rfl⟩
                    rw [← hy] at y0 y1 y2 HSS
                    obtain ⟨yc, yf, yd⟩ := y
                    dsimp only at y0 y1 y2
                    have jd : (j : Int) < (q : Int) := by omega
                    have j0 : (0 : Int) ≤ (j : Int) := by omega
                    have HYN : Hid (Below w6.heap.size w6 (wr.alloc (.cells #[.int .i64 yc, .int .i64 yf, .bool yd] 34)) ∧ (wr.alloc (.cells #[.int .i64 yc, .int .i64 yf, .bool yd] 34)).cell? ⟨w6.heap.size, 0, none⟩ = some (.int .i64 xc) ∧ (wr.alloc (.cells #[.int .i64 yc, .int .i64 yf, .bool yd] 34)).cell? ⟨w6.heap.size, 1, none⟩ = some (.int .i64 xf)) :=
                      ⟨HY.out.1.alloc HY.out.1.size _, keepCell (balloc (Below.refl _ _) _) x0, keepCell (balloc (Below.refl _ _) _) x1⟩
                    obtain ⟨st, hst⟩ : ∃ st, st = stepE n ⟨xc, xf, xd⟩ (F.take j) := ⟨_, rfl⟩
                    rw [← hst] at HSS ⊢
                    clear hy hst
                    by_cases hz : st = 0
                    · subst hz
                      have e0 : ((0 : Int) == 0) = true := rfl
                      by_cases h1 : xc = yc
                      · have e1 : (xc == yc) = true := by simpa using h1
                        by_cases h2 : xf = yf
                        · have e2 : (xf == yf) = true := by simpa using h2
                          have HS7 : Hid (stepE n ⟨xc, xf, xd⟩ (F.take (j + 1)) = 7) := by
                            have h := HSS.out
                            rw [if_pos ⟨rfl, by simp [sameF, h1, h2]⟩] at h
                            exact h
                          clear HSS h1 h2
                          go_wp2
                          go_roundw
                          case rel => exact ⟨j + 1, by omega, by go_num, (by rw [HS7.out]), HYN⟩
                          case measure => simp [intOf]; omega
                        · have e2 : (xf == yf) = false := by simpa using h2
                          have HS7 : Hid (stepE n ⟨xc, xf, xd⟩ (F.take (j + 1)) = 0) := by
                            have h := HSS.out
                            rw [if_neg (by rintro ⟨_, h3⟩; simp [sameF] at h3; exact h2 h3.2.symm)] at h
                            exact h
                          clear HSS h1 h2
                          go_wp2
                          go_roundw
                          case rel => exact ⟨j + 1, by omega, by go_num, (by rw [HS7.out]), HYN⟩
                          case measure => simp [intOf]; omega
                      · have e1 : (xc == yc) = false := by simpa using h1
                        have HS7 : Hid (stepE n ⟨xc, xf, xd⟩ (F.take (j + 1)) = 0) := by
                          have h := HSS.out
                          rw [if_neg (by rintro ⟨_, h3⟩; simp [sameF] at h3; exact h1 h3.1.symm)] at h
                          exact h
                        clear HSS h1
                        go_wp2
                        go_roundw
                        case rel => exact ⟨j + 1, by omega, by go_num, (by rw [HS7.out]), HYN⟩
                        case measure => simp [intOf]; omega
                    · have e0 : (st == 0) = false := by simpa using hz
                      have HS7 : Hid (stepE n ⟨xc, xf, xd⟩ (F.take (j + 1)) = st) := by
                        have h := HSS.out
                        rw [if_neg (by rintro ⟨h3, _⟩; exact hz h3)] at h
                        exact h
                      clear HSS hz
                      go_wp2
                      go_roundw
                      case rel => exact ⟨j + 1, by omega, by go_num, (by rw [HS7.out]), HYN⟩
                      case measure => simp [intOf]; omega
                  · obtain rfl : q = j := by omega
                    have HNB : Hid (Below w5.heap.size w5 wr) := HB56.out.trans (HY.out.1.mono HB56.out.size)
                    have HNS : Hid ((stepE n ⟨xc, xf, xd⟩ (F.take q) = 0 ∧ E = fltScan n (F.take (q + 1)) (F.drop (q + 1))) ∨ (stepE n ⟨xc, xf, xd⟩ (F.take q) ≠ 0 ∧ E = stepE n ⟨xc, xf, xd⟩ (F.take q))) := by
                      have h := HSTEP.out
                      by_cases hz : stepE n ⟨xc, xf, xd⟩ (F.take q) = 0
                      · rw [if_pos hz] at h
                        exact .inl ⟨hz, h⟩
                      · rw [if_neg hz] at h
                        exact .inr ⟨hz, h⟩
                    clear x0 x1 HY
                    obtain ⟨st, hst⟩ : ∃ st, st = stepE n ⟨xc, xf, xd⟩ (F.take q) := ⟨_, rfl⟩
                    rw [← hst] at HNS ⊢
                    clear hst
                    go_wp2
                    go_roundw
                    case rel => exact ⟨q + 1, st, by omega, by go_num, rfl, HNB, HNS⟩
                    case measure => simp [intOf]; omega
            · rw [inB_no h1] at HI1
              have HSTL : Hid (stepE n ⟨xc, xf, xd⟩ (F.take 0) = 3) := by
                show _ = _
                rw [List.take_zero, stepE_zero, if_pos (by unfold badF; simp only; omega)]
              clear h1
              go_wp2_with fail
              refine (HI1.out _).mono ?_
              rintro e w7 ⟨rfl, rfl⟩
              go_wp2
              go_loopw [7, 80] (fun f i wr => ∃ j : Nat, j ≤ q ∧ i = .int .i64 j ∧ f = .int .i64 (stepE n ⟨xc, xf, xd⟩ (F.take j)) ∧ Hid (Below w6.heap.size w6 wr ∧ wr.cell? ⟨w6.heap.size, 0, none⟩ = some (.int .i64 xc) ∧ wr.cell? ⟨w6.heap.size, 1, none⟩ = some (.int .i64 xf))) (fun _ i _ => q - (intOf i).toNat)
              case atStart => exact ⟨0, by omega, rfl, by rw [HSTL.out], HX0.out⟩
              case round =>
                clear HX0 HSTL
                obtain ⟨j, hj, rfl, rfl, HY⟩ := hrel
                have x0 := HY.out.2.1
                have x1 := HY.out.2.2
                have hxl : w6.heap.size < wr.heap.size := cell?_lt x0
                by_cases hjt : j < q
                · have hjx : j < F.length := by omega
                  obtain ⟨b9, o9, e9, y0, y1, y2⟩ := (HF.out.below (HBW6.out.trans (HY.out.1.mono HBW6.out.size))).ft hjx
                  rw [HOFF.out] at e9
                  simp only [Option.some.injEq, Addr.mk.injEq, and_true] at e9
                  obtain ⟨rfl, rfl⟩ := e9
                  have HSS := Lib.hid (stepE_succ n ⟨xc, xf, xd⟩ F j hjx)
                  obtain ⟨y, hy⟩ : ∃ y, y = F[j] := ⟨_, rfl⟩
                  rw [← hy] at y0 y1 y2 HSS
                  obtain ⟨yc, yf, yd⟩ := y
                  dsimp only at y0 y1 y2
                  have jd : (j : Int) < (q : Int) := by omega
                  have j0 : (0 : Int) ≤ (j : Int) := by omega
                  have HYN : Hid (Below w6.heap.size w6 (wr.alloc (.cells #[.int .i64 yc, .int .i64 yf, .bool yd] 34)) ∧ (wr.alloc (.cells #[.int .i64 yc, .int .i64 yf, .bool yd] 34)).cell? ⟨w6.heap.size, 0, none⟩ = some (.int .i64 xc) ∧ (wr.alloc (.cells #[.int .i64 yc, .int .i64 yf, .bool yd] 34)).cell? ⟨w6.heap.size, 1, none⟩ = some (.int .i64 xf)) :=
                    ⟨HY.out.1.alloc HY.out.1.size _, keepCell (balloc (Below.refl _ _) _) x0, keepCell (balloc (Below.refl _ _) _) x1⟩
                  obtain ⟨st, hst⟩ : ∃ st, st = stepE n ⟨xc, xf, xd⟩ (F.take j) := ⟨_, rfl⟩
                  rw [← hst] at HSS ⊢
                  clear hy hst
                  by_cases hz : st = 0
                  · subst hz
                    have e0 : ((0 : Int) == 0) = true := rfl
                    by_cases h1 : xc = yc
                    · have e1 : (xc == yc) = true := by simpa using h1
                      by_cases h2 : xf = yf
                      · have e2 : (xf == yf) = true := by simpa using h2
                        have HS7 : Hid (stepE n ⟨xc, xf, xd⟩ (F.take (j + 1)) = 7) := by
                          have h := HSS.out
                          rw [if_pos ⟨rfl, by simp [sameF, h1, h2]⟩] at h
                          exact h
                        clear HSS h1 h2
                        go_wp2
                        go_roundw
                        case rel => exact ⟨j + 1, by omega, by go_num, (by rw [HS7.out]), HYN⟩
                        case measure => simp [intOf]; omega
                      · have e2 : (xf == yf) = false := by simpa using h2
                        have HS7 : Hid (stepE n ⟨xc, xf, xd⟩ (F.take (j + 1)) = 0) := by
                          have h := HSS.out
                          rw [if_neg (by rintro ⟨_, h3⟩; simp [sameF] at h3; exact h2 h3.2.symm)] at h
                          exact h
                        clear HSS h1 h2
                        go_wp2
                        go_roundw
                        case rel => exact ⟨j + 1, by omega, by go_num, (by rw [HS7.out]), HYN⟩
                        case measure => simp [intOf]; omega
                    · have e1 : (xc == yc) = false := by simpa using h1
                      have HS7 : Hid (stepE n ⟨xc, xf, xd⟩ (F.take (j + 1)) = 0) := by
                        have h := HSS.out
                        rw [if_neg (by rintro ⟨_, h3⟩; simp [sameF] at h3; exact h1 h3.1.symm)] at h
                        exact h
                      clear HSS h1
                      go_wp2
                      go_roundw
                      case rel => exact ⟨j + 1, by omega, by go_num, (by rw [HS7.out]), HYN⟩
                      case measure => simp [intOf]; omega
                  · have e0 : (st == 0) = false := by simpa using hz
                    have HS7 : Hid (stepE n ⟨xc, xf, xd⟩ (F.take (j + 1)) = st) := by
                      have h := HSS.out
                      rw [if_neg (by rintro ⟨h3, _⟩; exact hz h3)] at h
                      exact h
                    clear HSS hz
                    go_wp2
                    go_roundw
                    case rel => exact ⟨j + 1, by omega, by go_num, (by rw [HS7.out]), HYN⟩
                    case measure => simp [intOf]; omega
                · obtain rfl : q = j := by omega
                  have HNB : Hid (Below w5.heap.size w5 wr) := HB56.out.trans (HY.out.1.mono HB56.out.size)
                  have HNS : Hid ((stepE n ⟨xc, xf, xd⟩ (F.take q) = 0 ∧ E = fltScan n (F.take (q + 1)) (F.drop (q + 1))) ∨ (stepE n ⟨xc, xf, xd⟩ (F.take q) ≠ 0 ∧ E = stepE n ⟨xc, xf, xd⟩ (F.take q))) := by
                    have h := HSTEP.out
                    by_cases hz : stepE n ⟨xc, xf, xd⟩ (F.take q) = 0
                    · rw [if_pos hz] at h
                      exact .inl ⟨hz, h⟩
                    · rw [if_neg hz] at h
                      exact .inr ⟨hz, h⟩
                  clear x0 x1 HY
                  obtain ⟨st, hst⟩ : ∃ st, st = stepE n ⟨xc, xf, xd⟩ (F.take q) := ⟨_, rfl⟩
                  rw [← hst] at HNS ⊢
                  clear hst
                  go_wp2
                  go_roundw
                  case rel => exact ⟨q + 1, st, by omega, by go_num, rfl, HNB, HNS⟩
                  case measure => simp [intOf]; omega
          · obtain rfl : M = q := by omega
            have hE00 : E = 0 := by
              have h := HSC.out
              rw [HM.out] at h
              rw [h]
              exact fltScan_end n F
            subst hE00
            obtain ⟨a, g, p, rv, Z, hg⟩ : ∃ a g p rv Z, Good fs F w1 w2 og N cg op cpq o0 n0 c0 c n1 o1 c1 o2 c2 o3 c3 a g p rv Z := by
              rcases HGB.out with ⟨h, _⟩ | ⟨_, h⟩
              · exact absurd rfl h
              · exact h
            have HG := Lib.hid hg
            obtain rfl : n1 = n := by have h1 := hg.hn; have h2 := HN.out; omega
            have HOK := Lib.hid (runErr_ok HE.out.symm)
            have HCAP : Hid (c ≤ 4608) := hg.run.cap HOK.out.1 HOK.out.2.len
            have hcc := HCAP.out
            have HINV := Lib.hid (hg.run.inv (RunInv.zero fs)).1
            have HB2X : Hid (Below w2.heap.size w2 wr) := by
              have h := HB24.out.trans ((HB45.out.trans (HB56.out.mono HB45.out.size)).mono (by have := HB24.out.size; have := HRBE.out; omega))
              rw [← HRBE.out] at h
              exact h
            have hgl : N ≤ 4608 := by have h1 := hg.hN; have h2 := HINV.out.cyc; omega
            have h8 : n1 ≤ 8 := by have := HOK.out.1.few; have := HN.out; omega
            have h1n : 1 ≤ n1 := by have := HOK.out.1.one; have := HN.out; omega
            have e00 : ((0 : Int) == 0) = true := rfl
            have hnq : ¬ (M : Int) < (M : Int) := by omega
            obtain ⟨w6, rfl⟩ : ∃ w6 : World, w6 = wr := ⟨_, rfl⟩
            have HXX := Lib.hid (HCO.out w6 _ _ _ _ HBX.out HOK.out.1 (by have h1 := HM.out; have h2 := HOK.out.2.len; omega) hg.run)
            clear HGB hg HSC HCELL5
            go_wp2_with fail
            refine HXX.out.mono ?_
            rintro e w7 ⟨vg, vp, rv', rfl, hrep', hb7⟩
            have HREP' := Lib.hid hrep'
            have HB67 := Lib.hid hb7
            have HBW7 : Hid (Below w.heap.size w w7) := HBX.out.trans (hb7.mono HBX.out.size)
            have HB27 : Hid (Below w2.heap.size w2 w7) := HB2X.out.trans (hb7.mono HB2X.out.size)
            have HC7 : Hid (∀ i v, (repC og N cg op cpq o0 n0 c0 c n1 o1 c1 o2 c2 o3 c3)[i]? = some v → w7.cell? ⟨rb, i, none⟩ = some v) := fun i v hv => keepCell hb7 (HCX.out i v hv)
            have hr7 : rb < w7.heap.size := by have h1 := hb7.size; have h2 := cell?_lt (HCX.out 0 _ rfl); simp only at h2; omega
            obtain ⟨og', cg', e1, -, -⟩ := hrep'.og.flat (fun _ => rfl)
            obtain ⟨op', cp', e2, -, -⟩ := hrep'.op.flat (fun _ => rfl)
            have hl1 : g.length = N := HG.out.hN.symm
            have hl2 : rv'.length = N := by rw [hrep'.len, HINV.out.len, hl1]
            rw [hl1] at e1
            rw [hl2] at e2
            subst e1 e2
            have HRVL := Lib.hid hl2
            have HGL := Lib.hid hl1
            clear hrep' hb7 hl1 hl2 HXX HCX HB45 HB56 HB24 HB2
            have hccc : ((c : Int) != (c : Int)) = false := by simp
            have hNN : ((N : Int) != (N : Int)) = false := by simp
            have hnn : ((n1 : Int) != (n1 : Int)) = false := by simp
            have s0 : w7.cell? ⟨rb, 0, none⟩ = some (.slice og N cg) := HC7.out 0 _ rfl
            have s3 : w7.cell? ⟨rb, 3, none⟩ = some (.int .i64 c) := HC7.out 3 _ rfl
            go_wp2_with fail
            refine (same_bel _ _ g w7 ((HG.out.rep.og.below HB27.out).isSlice (fun _ => rfl)) (HREP'.out.og.isSlice (fun _ => rfl))).mono ?_
            rintro e w8 ⟨rfl, hb8⟩
            have HB78 := Lib.hid hb8
            have HBW8 : Hid (Below w.heap.size w w8) := HBW7.out.trans (hb8.mono HBW7.out.size)
            have HB28 : Hid (Below w2.heap.size w2 w8) := HB27.out.trans (hb8.mono HB27.out.size)
            have HC8 : Hid (∀ i v, (repC og N cg op cpq o0 n0 c0 c n1 o1 c1 o2 c2 o3 c3)[i]? = some v → w8.cell? ⟨rb, i, none⟩ = some v) := fun i v hv => keepCell hb8 (HC7.out i v hv)
            have hr8 : rb < w8.heap.size := by have h1 := hb8.size; omega
            have s1 : w8.cell? ⟨rb, 1, none⟩ = some (.slice op N cpq) := HC8.out 1 _ rfl
            clear hb8 HC7 s0 s3
            go_wp2
            clear s1
            go_loopw [169] (fun i wr => ∃ k : Nat, k ≤ N ∧ i = .int .i64 k ∧ Hid (∃ q, wr = w8.drewN q)) (fun i _ => N - (intOf i).toNat)
            case atStart => exact ⟨0, by omega, rfl, 0, rfl⟩
            case round =>
              obtain ⟨k, hk, rfl, HQ⟩ := hrel
              have HB8W : Hid (Below w8.heap.size w8 wr) := by obtain ⟨q, hq⟩ := HQ.out; rw [hq]; exact bdrewN (Below.refl _ _) q
              have HB2W : Hid (Below w2.heap.size w2 wr) := HB28.out.trans (HB8W.out.mono HB28.out.size)
              have HB7W : Hid (Below w7.heap.size w7 wr) := HB78.out.trans (HB8W.out.mono HB78.out.size)
              by_cases hkt : k < N
              · have hkp : k < p.length := by have := HINV.out.len; have := HGL.out; omega
                have hkr : k < rv.length := by have := HG.out.rep.len; omega
                have hkr' : k < rv'.length := by have := HRVL.out; omega
                obtain ⟨bp, fp, cpp, e1, cv⟩ := tm_ownV (HG.out.rep.op.below HB2W.out) hkr
                simp only [Value.slice.injEq] at e1
                obtain ⟨rfl, -, rfl⟩ := e1
                obtain ⟨bp', fp', cpp', e1, cv'⟩ := tm_ownV (HREP'.out.op.below HB7W.out) hkr'
                simp only [Value.slice.injEq] at e1
                obtain ⟨rfl, -, rfl⟩ := e1
                have hrow := HG.out.rep.row k hkr hkp
                have hrow' := HREP'.out.row k hkr' hkp
                obtain ⟨ou, cu, e3, -, -⟩ := hrow.flat (fun _ => rfl)
                obtain ⟨ou', cu', e4, -, -⟩ := hrow'.flat (fun _ => rfl)
                have HSI : Hid (∀ nq, Calls Try.prog 14 #[.slice ou p[k].length cu, .slice ou' p[k].length cu'] (wr.drewN nq) fun e w' => e = .returned (.bool true) ∧ ∃ q, w' = (wr.drewN nq).drewN q) := fun nq => by
                  rw [← e3, ← e4]
                  exact same_is _ _ p[k] _ ((hrow.below (HB2W.out.trans ((bdrewN (Below.refl _ _) nq).mono HB2W.out.size))).isSlice (fun _ => rfl)) ((hrow'.below (HB7W.out.trans ((bdrewN (Below.refl _ _) nq).mono HB7W.out.size))).isSlice (fun _ => rfl))
                rw [e3] at cv
                rw [e4] at cv'
                obtain ⟨L, hL⟩ : ∃ L, L = p[k].length := ⟨_, rfl⟩
                rw [← hL] at cv cv' HSI
                have s1 : wr.cell? ⟨rb, 1, none⟩ = some (.slice (some ⟨bp, fp, none⟩) N cpq) := keepCell HB8W.out (HC8.out 1 _ rfl)
                have kd : (k : Int) < (N : Int) := by omega
                have k0 : (0 : Int) ≤ (k : Int) := by omega
                clear hL e3 e4 hrow hrow'
                go_wp2
                go_quiet ((go_at_call 14; exact quiet_q (HSI.out _)))
                have HNX : Hid (∃ q, wr.drewN nq = w8.drewN q) := by obtain ⟨q, hq⟩ := HQ.out; exact ⟨q + nq, by rw [hq, drewN_drewN]⟩
                clear cv cv' s1 HSI
                go_wp2
                go_roundw
                case rel => exact ⟨k + 1, by omega, by go_num, HNX⟩
                case measure => simp [intOf]; omega
              · obtain rfl : N = k := by omega
                have HBWX : Hid (Below w.heap.size w wr) := HBW8.out.trans (HB8W.out.mono HBW8.out.size)
                have HCW : Hid (∀ i v, (repC og N cg op cpq o0 n0 c0 c n1 o1 c1 o2 c2 o3 c3)[i]? = some v → wr.cell? ⟨rb, i, none⟩ = some v) := fun i v hv => keepCell HB8W.out (HC8.out i v hv)
                have HOGW := Lib.hid (HREP'.out.og.below HB7W.out)
                have HFEED : Hid (∀ w', Below wr.heap.size wr w' → Args w' fs oa so sc) := fun w' hb => HA.out.below (HBWX.out.trans (hb.mono HBWX.out.size))
                have hrw : rb < wr.heap.size := by have := HB8W.out.size; omega
                obtain ⟨w9, rfl⟩ : ∃ w9 : World, w9 = wr := ⟨_, rfl⟩
                clear HB8W HQ HB7W HC8
                have HBND : Hid (N ≤ 4608 ∧ n1 ≤ 8) := ⟨hgl, h8⟩
                have HNN := HN
                go_wp2
                go_loopw [16, 17] (fun ms i wr => ∃ q : Nat, q ≤ 9999 ∧ i = .int .i64 ((q : Int) + 1) ∧ Hid (KR w9 wr ms (missV fs g q))) (fun _ i _ => 10001 - (intOf i).toNat)
                case atStart => exact ⟨0, by omega, by go_num, KR.start w9⟩
                case round =>
                  obtain ⟨q, hq, rfl, HK⟩ := hrel
                  obtain ⟨w10, rfl⟩ : ∃ w10 : World, w10 = wr := ⟨_, rfl⟩
                  obtain ⟨mv, rfl⟩ : ∃ mv : Value, mv = u16 := ⟨_, rfl⟩
                  by_cases hqt : q < 9999
                  · have HMV := Lib.hid (missV_succ fs g q)
                    have HML : Hid ((missV fs g q).length ≤ 9999) := Nat.le_trans (missV_len fs g q) (by omega)
                    obtain ⟨x, hx⟩ : ∃ x : Int, x = (q : Int) + 1 := ⟨_, rfl⟩
                    rw [← hx] at HMV ⊢
                    have xd : x ≤ 9999 := by omega
                    have xw : IntKind.i64.wrap (x + 1) = x + 1 := IntWalk.i64_in _ (by omega)
                    have HX2 : Hid (x + 1 = ((q + 1 : Nat) : Int) + 1 ∧ x = (q : Int) + 1) := ⟨by omega, hx⟩
                    clear hx
                    go_wp2
                    go_loopw [18, 190] (fun md i wr => ∃ k : Nat, k ≤ N ∧ i = .int .i64 k ∧ md = .bool (madeAny g x k) ∧ w10 = wr) (fun _ i _ => N - (intOf i).toNat)
                    case atStart => exact ⟨0, by omega, rfl, rfl, rfl⟩
                    case round =>
                      obtain ⟨k, hk, rfl, rfl, rfl⟩ := hrel
                      by_cases hkt : k < N
                      · have hkg : k < g.length := by have := HGL.out; omega
                        obtain ⟨bg, fg, rfl, m0⟩ := own_cellI (HOGW.out.below HK.out.bel) hkg
                        have HMS := Lib.hid (madeAny_succ g x k hkg)
                        obtain ⟨y, hy⟩ : ∃ y, y = g[k] := ⟨_, rfl⟩
                        rw [← hy] at m0 HMS
                        obtain ⟨b, hb⟩ : ∃ b, b = madeAny g x k := ⟨_, rfl⟩
                        rw [← hb] at HMS ⊢
                        have kd : (k : Int) < (N : Int) := by omega
                        have k0 : (0 : Int) ≤ (k : Int) := by omega
                        clear hy hb
                        cases b with
                        | true =>
                          have HM1 : Hid (madeAny g x (k + 1) = true) := by show _ = _; rw [HMS.out]; rfl
                          clear HMS
                          go_wp2
                          go_roundw
                          case rel => exact ⟨k + 1, by omega, by go_num, (by rw [HM1.out]), trivial⟩
                          case measure => simp [intOf]; omega
                        | false =>
                          have HM1 : Hid (madeAny g x (k + 1) = (y == x)) := by show _ = _; rw [HMS.out]; simp
                          clear HMS
                          go_wp2
                          go_roundw
                          case rel => exact ⟨k + 1, by omega, by go_num, (by rw [HM1.out]), trivial⟩
                          case measure => simp [intOf]; omega
                      · obtain rfl : N = k := by omega
                        have hma : madeAny g x N = g.contains x := by rw [← HGL.out]; exact madeAny_all g x
                        rw [hma]
                        clear hma
                        cases hct : g.contains x with
                        | true =>
                          have HNX : Hid (KR w9 w10 mv (missV fs g (q + 1))) := by
                            have h := HMV.out
                            rw [hct] at h
                            simp only [Bool.not_true, Bool.false_and, Bool.false_eq_true, if_false, List.append_nil] at h
                            show KR _ _ _ _
                            rw [h]
                            exact HK.out
                          clear hct HMV
                          go_wp2
                          go_roundw
                          case rel => exact ⟨q + 1, by omega, (by rw [← HX2.out.1]), HNX⟩
                          case measure => have := HX2.out.2; simp [intOf]; omega
                        | false =>
                          have HMV2 : Hid (missV fs g (q + 1) = missV fs g q ++ (if known fs x = true then [x] else [])) := by
                            have h := HMV.out
                            rw [hct] at h
                            show _ = _
                            simpa using h
                          clear hct HMV
                          go_wp2
                          go_loopw [19, 204] (fun kn i wr => ∃ k : Nat, k ≤ n1 ∧ i = .int .i64 k ∧ kn = .bool (fsKnown fs x k) ∧ Hid (KR w9 wr mv (missV fs g q))) (fun _ i _ => n1 - (intOf i).toNat)
                          case atStart => exact ⟨0, by omega, rfl, rfl, HK.out⟩
                          case round =>
                            clear HK
                            obtain ⟨k, hk, rfl, rfl, HK⟩ := hrel
                            obtain ⟨w11, rfl⟩ : ∃ w11 : World, w11 = wr := ⟨_, rfl⟩
                            by_cases hkt : k < n1
                            · have hkx : k < fs.length := by have := HNN.out; omega
                              obtain ⟨ba, off, rfl, p0⟩ := (HFEED.out w11 HK.out.bel).hd k hkx
                              have HROW := Lib.hid (fun w' hb => (HFEED.out w' hb).row k hkx)
                              have HFS := Lib.hid (fsKnown_succ fs x k hkx)
                              rw [ln_get fs k hkx] at p0
                              obtain ⟨l, hl⟩ : ∃ l, l = fs[k] := ⟨_, rfl⟩
                              rw [← hl] at p0 HROW HFS
                              have hll : l.length ≤ 512 := by rw [hl]; exact (HOK.out.1.rows _ (List.getElem_mem hkx)).len
                              obtain ⟨L, hL⟩ : ∃ L, L = l.length := ⟨_, rfl⟩
                              rw [← hL] at p0 hll HFS
                              have HLL := Lib.hid hL
                              have kd : (k : Int) < (n1 : Int) := by omega
                              have k0 : (0 : Int) ≤ (k : Int) := by omega
                              obtain ⟨fk, hfk⟩ : ∃ fk, fk = fsKnown fs x k := ⟨_, rfl⟩
                              rw [← hfk] at HFS ⊢
                              clear hl hL hfk
                              go_wp2
                              clear p0
                              go_loopw [19, 210] (fun kn i wr => ∃ j : Nat, j ≤ L ∧ i = .int .i64 j ∧ kn = .bool (fk || rowKnown l x j) ∧ Hid (KR w9 wr mv (missV fs g q))) (fun _ i _ => L - (intOf i).toNat)
                              case atStart => exact ⟨0, by omega, rfl, (by simp [rowKnown]), HK.out⟩
                              case round =>
                                clear HK
                                obtain ⟨j, hj, rfl, rfl, HK⟩ := hrel
                                by_cases hjt : j < L
                                · have hjx : j < l.length := by have := HLL.out; omega
                                  obtain ⟨bo, oo, hso, i0, i1⟩ := (HROW.out wr HK.out.bel).pt hjx
                                  rw [hso]
                                  have HRS := Lib.hid (rowKnown_succ l x j hjx)
                                  obtain ⟨y, hy⟩ : ∃ y, y = l[j] := ⟨_, rfl⟩
                                  rw [← hy] at i0 i1 HRS
                                  obtain ⟨yc, ys⟩ := y
                                  dsimp only at i0 i1
                                  have jd : (j : Int) < (L : Int) := by omega
                                  have j0 : (0 : Int) ≤ (j : Int) := by omega
                                  have HKN := Lib.hid (HK.out.below (balloc (Below.refl _ wr) (.cells #[.int .i64 yc, .bool ys] 41)))
                                  obtain ⟨b, hb⟩ : ∃ b, b = (fk || rowKnown l x j) := ⟨_, rfl⟩
                                  rw [← hb]
                                  have HB0 := Lib.hid hb
                                  clear hy hb hso HK
                                  cases b with
                                  | true =>
                                    have HM1 : Hid ((fk || rowKnown l x (j + 1)) = true) := by show _ = _; rw [HRS.out, ← Bool.or_assoc, ← HB0.out]; rfl
                                    clear HRS HB0
                                    go_wp2
                                    go_roundw
                                    case rel => exact ⟨j + 1, by omega, by go_num, (by rw [HM1.out]), HKN⟩
                                    case measure => simp [intOf]; omega
                                  | false =>
                                    have HM1 : Hid ((fk || rowKnown l x (j + 1)) = (yc == x)) := by show _ = _; rw [HRS.out, ← Bool.or_assoc, ← HB0.out]; simp
                                    clear HRS HB0
                                    go_wp2
                                    go_roundw
                                    case rel => exact ⟨j + 1, by omega, by go_num, (by rw [HM1.out]), HKN⟩
                                    case measure => simp [intOf]; omega
                                · obtain rfl : L = j := by omega
                                  have HFK : Hid (fsKnown fs x (k + 1) = (fk || rowKnown l x L)) := HFS.out
                                  obtain ⟨b, hb⟩ : ∃ b, b = (fk || rowKnown l x L) := ⟨_, rfl⟩
                                  rw [← hb] at HFK ⊢
                                  clear hb
                                  go_wp2
                                  go_roundw
                                  case rel => exact ⟨k + 1, by omega, by go_num, (by rw [HFK.out]), HK⟩
                                  case measure => simp [intOf]; omega
                            · obtain rfl : n1 = k := by omega
                              have hfa : fsKnown fs x n1 = known fs x := by rw [HNN.out]; exact fsKnown_all fs x
                              rw [hfa]
                              clear hfa
                              cases hkn : known fs x with
                              | true =>
                                have HME : Hid (missV fs g (q + 1) = missV fs g q ++ [x]) := by
                                  have h := HMV2.out
                                  rw [hkn, if_pos rfl] at h
                                  exact h
                                obtain ⟨ml, hml⟩ : ∃ ml, ml = missV fs g q := ⟨_, rfl⟩
                                rw [← hml] at HK HME HML
                                have HK6 := Lib.hid (HK.out.below (balloc (Below.refl _ w11) (.cells #[.int .i64 x] 3)))
                                have HNEW : Hid (∀ (j : Nat) (u : Value), (encInt x)[j]? = some u → (w11.alloc (.cells #[.int .i64 x] 3)).cell? ((⟨w11.heap.size, 0, none⟩ : Addr).add j) = some u) := World.news_of_block (cs := #[.int .i64 x]) (t := 3) (fr := (0, 0)) (heap_alloc_new w11 _)
                                clear hkn hml HK HMV2
                                go_wp2_with (at_builtin; refine wpList_appAt rfl (.tmp 224) (.tmp 226) 25 rfl elemIntT Try.underlying25 w9.heap.size mv ml encInt rfl HK6.out.own x ⟨w11.heap.size, 0, none⟩ 1 rfl rfl HNEW.out ?c1 ?c2 ?c3 ?c4 ?_)
                                case c1 => simp [encInt, Value.oneCell']
                                case c2 => have := HML.out; omega
                                case c3 => have := HML.out; unfold maxLen; omega
                                case c4 => exact HK6.out.bel.size
                                intro mv7 w12 hown7 hg7 hat7
                                obtain ⟨ml7, hml7⟩ : ∃ ml7, ml7 = ml ++ [x] := ⟨_, rfl⟩
                                rw [← hml7] at hown7 HME
                                have HNX : Hid (KR w9 w12 mv7 (missV fs g (q + 1))) := by
                                  show KR _ _ _ _
                                  rw [HME.out]
                                  exact HK6.out.add hown7 hg7
                                clear hown7 hg7 hat7 hml7 HK6 HNEW
                                go_wp2
                                go_roundw
                                case rel => exact ⟨q + 1, by omega, (by rw [← HX2.out.1]), HNX⟩
                                case measure => have := HX2.out.2; simp [intOf]; omega
                              | false =>
                                have HNX : Hid (KR w9 w11 mv (missV fs g (q + 1))) := by
                                  have h := HMV2.out
                                  rw [hkn, if_neg (by decide), List.append_nil] at h
                                  show KR _ _ _ _
                                  rw [h]
                                  exact HK.out
                                clear hkn HK HMV2
                                go_wp2
                                go_roundw
                                case rel => exact ⟨q + 1, by omega, (by rw [← HX2.out.1]), HNX⟩
                                case measure => have := HX2.out.2; simp [intOf]; omega
                  · obtain rfl : q = 9999 := by omega
                    have hmq : missV fs g 9999 = finX fs g a 0 := (missV_is HOK.out.1 g).unique (missing_is fs g)
                    have HK9 := Lib.hid HK.out
                    rw [hmq] at HK9
                    obtain ⟨om, cm, e5, -, -⟩ := HK9.out.own.flat (fun _ => rfl)
                    rw [← HG.out.hn0] at e5
                    subst e5
                    have HB9 := Lib.hid HK9.out.bel
                    have HCX9 : Hid (∀ i v, (repC og N cg op cpq o0 n0 c0 c n1 o1 c1 o2 c2 o3 c3)[i]? = some v → w10.cell? ⟨rb, i, none⟩ = some v) := fun i v hv => keepCell HB9.out (HCW.out i v hv)
                    have HB2X9 : Hid (Below w2.heap.size w2 w10) := HB2W.out.trans (HB9.out.mono HB2W.out.size)
                    have HBX9 : Hid (Below w.heap.size w w10) := HBWX.out.trans (HB9.out.mono HBWX.out.size)
                    have s2 : w10.cell? ⟨rb, 2, none⟩ = some (.slice o0 n0 c0) := HCX9.out 2 _ rfl
                    have hle : ¬ ((9999 : Int) + 1 ≤ 9999) := by decide
                    have hsm := same_bel (.slice o0 n0 c0) (.slice om n0 cm) (finX fs g a 0) w10 ((HG.out.m0.below HB2X9.out).isSlice (fun _ => rfl)) (HK9.out.own.isSlice (fun _ => rfl))
                    have HSM := Lib.hid hsm
                    clear hsm HK HK9 hmq HOGW HFEED
                    go_wp2_with fail
                    refine HSM.out.mono ?_
                    rintro e w11 ⟨rfl, hb11⟩
                    have HBX11 : Hid (Below w.heap.size w w11) := HBX9.out.trans (hb11.mono HBX9.out.size)
                    have HB2X11 : Hid (Below w2.heap.size w2 w11) := HB2X9.out.trans (hb11.mono HB2X9.out.size)
                    have HC11 : Hid (∀ i v, (repC og N cg op cpq o0 n0 c0 c n1 o1 c1 o2 c2 o3 c3)[i]? = some v → w11.cell? ⟨rb, i, none⟩ = some v) := fun i v hv => keepCell hb11 (HCX9.out i v hv)
                    have r4 : w11.cell? ⟨rb, 4, none⟩ = some (.slice o1 n1 c1) := HC11.out 4 _ rfl
                    have r5 : w11.cell? ⟨rb, 5, none⟩ = some (.slice o2 n1 c2) := HC11.out 5 _ rfl
                    have r6 : w11.cell? ⟨rb, 6, none⟩ = some (.slice o3 n1 c3) := HC11.out 6 _ rfl
                    clear hb11 s2 HCX9 HSM
                    go_wp2
                    clear r4 r5 r6
                    go_loopw [259] (fun i wr => ∃ k : Nat, k ≤ n1 ∧ i = .int .i64 k ∧ Hid (∃ q, wr = w11.drewN q)) (fun i _ => n1 - (intOf i).toNat)
                    case atStart => exact ⟨0, by omega, rfl, 0, rfl⟩
                    case round =>
                      obtain ⟨k, hk, rfl, HQ⟩ := hrel
                      have HB11 : Hid (Below w11.heap.size w11 wr) := by obtain ⟨q, hq⟩ := HQ.out; rw [hq]; exact bdrewN (Below.refl _ _) q
                      have HB2Y : Hid (Below w2.heap.size w2 wr) := HB2X11.out.trans (HB11.out.mono HB2X11.out.size)
                      have HBY : Hid (Below w.heap.size w wr) := HBX11.out.trans (HB11.out.mono HBX11.out.size)
                      by_cases hkt : k < n1
                      · have hkx : k < fs.length := by have := HNN.out; omega
                        obtain ⟨ba, off, rfl, p0⟩ := (HA.out.below HBY.out).hd k hkx
                        obtain ⟨b1, f1, rfl, t1⟩ := own_cellI (HG.out.m1.below HB2Y.out) (i := k) (by rw [usedTo_len]; exact hkx)
                        obtain ⟨b2, f2, rfl, t2⟩ := own_cellI (HG.out.m2.below HB2Y.out) (i := k) (by rw [wstTo_len]; exact hkx)
                        obtain ⟨b3, f3, rfl, t3⟩ := own_cellI (HG.out.m3.below HB2Y.out) (i := k) (by rw [lftTo_len]; exact hkx)
                        rw [used_get] at t1
                        rw [wst_get] at t2
                        rw [lft_get] at t3
                        have r4 : wr.cell? ⟨rb, 4, none⟩ = some (.slice (some ⟨b1, f1, none⟩) n1 c1) := keepCell HB11.out (HC11.out 4 _ rfl)
                        have r5 : wr.cell? ⟨rb, 5, none⟩ = some (.slice (some ⟨b2, f2, none⟩) n1 c2) := keepCell HB11.out (HC11.out 5 _ rfl)
                        have r6 : wr.cell? ⟨rb, 6, none⟩ = some (.slice (some ⟨b3, f3, none⟩) n1 c3) := keepCell HB11.out (HC11.out 6 _ rfl)
                        have hwi := HINV.out.win k hkx
                        have hus := HINV.out.used k hkx
                        have hlo := HOK.out.1.low k
                        obtain ⟨L, hL⟩ : ∃ L, L = ln fs k := ⟨_, rfl⟩
                        rw [← hL] at p0 t3 hwi hlo
                        obtain ⟨y, hy⟩ : ∃ y, y = a k := ⟨_, rfl⟩
                        rw [← hy] at t1 t2 t3 hwi hus
                        rw [HGL.out] at t2 hus
                        obtain ⟨ws, hws⟩ : ∃ ws : Int, ws = (y : Int) - (N : Int) := ⟨_, rfl⟩
                        rw [← hws] at t2
                        obtain ⟨lf, hlf⟩ : ∃ lf : Int, lf = (L : Int) - (y : Int) := ⟨_, rfl⟩
                        rw [← hlf] at t3
                        have z1 : IntKind.i64.wrap ((y : Int) + lf) = (L : Int) := by rw [hlf, show (y : Int) + ((L : Int) - y) = L by omega]; exact IntWalk.i64_in _ (by omega)
                        have z2 : IntKind.i64.wrap ((y : Int) - (N : Int)) = ws := by rw [hws]; exact IntWalk.i64_in _ (by omega)
                        have hLL : ((L : Int) != (L : Int)) = false := by simp
                        have hww : (ws != ws) = false := by simp
                        have kd : (k : Int) < (n1 : Int) := by omega
                        have k0 : (0 : Int) ≤ (k : Int) := by omega
                        clear hL hy hws hlf
                        go_wp2
                        go_quiet (fail)
                        have HNX : Hid (∃ q, wr.drewN nq = w11.drewN q) := by obtain ⟨q, hq⟩ := HQ.out; exact ⟨q + nq, by rw [hq, drewN_drewN]⟩
                        go_wp2
                        go_roundw
                        case rel => exact ⟨k + 1, by omega, by go_num, HNX⟩
                        case measure => simp [intOf]; omega
                      · obtain rfl : n1 = k := by omega
                        go_wp2
                        go_ret
                        exact ⟨rfl, HBY.out⟩
        · have hE0 : E ≠ 0 := by
            rcases HST.out with ⟨h, _⟩ | ⟨_, h⟩
            · exact absurd h hfe
            · rw [h]; exact hfe
          have hfE : fe = E := by
            rcases HST.out with ⟨h, _⟩ | ⟨_, h⟩
            · exact absurd h hfe
            · exact h.symm
          subst hfE
          have he0 : (fe == 0) = false := by simpa using hfe
          clear hfe HST
          by_cases hqt : q < M
          · have hm0 : (q : Int) < (M : Int) := by omega
            have hbb : N = 0 ∧ n0 = 0 ∧ c = 0 ∧ n1 = 0 := by
              rcases HGB.out with ⟨_, h⟩ | ⟨h, _⟩
              · exact h
              · exact absurd h hE0
            obtain ⟨rfl, rfl, rfl, rfl⟩ := hbb
            have b0 : wr.cell? ⟨rb, 0, none⟩ = some (.slice og 0 cg) := HCX.out 0 _ rfl
            have b1 : wr.cell? ⟨rb, 1, none⟩ = some (.slice op 0 cpq) := HCX.out 1 _ rfl
            have b2 : wr.cell? ⟨rb, 2, none⟩ = some (.slice o0 0 c0) := HCX.out 2 _ rfl
            have b3 : wr.cell? ⟨rb, 3, none⟩ = some (.int .i64 0) := HCX.out 3 _ rfl
            have b4 : wr.cell? ⟨rb, 4, none⟩ = some (.slice o1 0 c1) := HCX.out 4 _ rfl
            have b5 : wr.cell? ⟨rb, 5, none⟩ = some (.slice o2 0 c2) := HCX.out 5 _ rfl
            have b6 : wr.cell? ⟨rb, 6, none⟩ = some (.slice o3 0 c3) := HCX.out 6 _ rfl
            have hee : (fe == fe) = true := by simp
            have hen : (fe != 0) = true := by simpa using hE0
            clear hE0
            go_wp2
            go_ret
            exact ⟨rfl, HBX.out⟩
          · have hm0 : ¬ (q : Int) < (M : Int) := by omega
            have hbb : N = 0 ∧ n0 = 0 ∧ c = 0 ∧ n1 = 0 := by
              rcases HGB.out with ⟨_, h⟩ | ⟨h, _⟩
              · exact h
              · exact absurd h hE0
            obtain ⟨rfl, rfl, rfl, rfl⟩ := hbb
            have b0 : wr.cell? ⟨rb, 0, none⟩ = some (.slice og 0 cg) := HCX.out 0 _ rfl
            have b1 : wr.cell? ⟨rb, 1, none⟩ = some (.slice op 0 cpq) := HCX.out 1 _ rfl
            have b2 : wr.cell? ⟨rb, 2, none⟩ = some (.slice o0 0 c0) := HCX.out 2 _ rfl
            have b3 : wr.cell? ⟨rb, 3, none⟩ = some (.int .i64 0) := HCX.out 3 _ rfl
            have b4 : wr.cell? ⟨rb, 4, none⟩ = some (.slice o1 0 c1) := HCX.out 4 _ rfl
            have b5 : wr.cell? ⟨rb, 5, none⟩ = some (.slice o2 0 c2) := HCX.out 5 _ rfl
            have b6 : wr.cell? ⟨rb, 6, none⟩ = some (.slice o3 0 c3) := HCX.out 6 _ rfl
            have hee : (fe == fe) = true := by simp
            have hen : (fe != 0) = true := by simpa using hE0
            clear hE0
            go_wp2
            go_ret
            exact ⟨rfl, HBX.out⟩
  · have e00 : (V == 0) = false := by simpa using hV0
    have HEV : Hid (E = V) := by
      have h := HCV.out
      rw [if_neg hV0] at h
      exact h
    have hE0 : E ≠ 0 := by rw [HEV.out]; exact hV0
    have HV0 := Lib.hid hV0
    clear hV0
    go_wp2
    go_loopw [7, 8] (fun f i wr => i = .int .i64 0 ∧ f = .int .i64 E ∧ w5 = wr) (fun _ _ _ => 0)
    case atStart => exact ⟨rfl, by rw [HEV.out], rfl⟩
    case round =>
      obtain ⟨rfl, rfl, rfl⟩ := hrel
      obtain ⟨wr, rfl⟩ : ∃ wr : World, wr = w5 := ⟨_, rfl⟩
      have HCX := HCELL5
      have HBX := HBW5
      have he0 : (E == 0) = false := by simpa using hE0
      have hE1 := Lib.hid hE0
      have key : Hid (E ≠ 0) := hE0
      rcases Nat.eq_zero_or_pos M with hM0 | hM0
      · have hm0 : ¬ (0 : Int) < (M : Int) := by omega
        subst hM0
        have hbb : N = 0 ∧ n0 = 0 ∧ c = 0 ∧ n1 = 0 := by
          rcases HGB.out with ⟨_, h⟩ | ⟨h, _⟩
          · exact h
          · exact absurd h hE0
        obtain ⟨rfl, rfl, rfl, rfl⟩ := hbb
        have b0 : wr.cell? ⟨rb, 0, none⟩ = some (.slice og 0 cg) := HCX.out 0 _ rfl
        have b1 : wr.cell? ⟨rb, 1, none⟩ = some (.slice op 0 cpq) := HCX.out 1 _ rfl
        have b2 : wr.cell? ⟨rb, 2, none⟩ = some (.slice o0 0 c0) := HCX.out 2 _ rfl
        have b3 : wr.cell? ⟨rb, 3, none⟩ = some (.int .i64 0) := HCX.out 3 _ rfl
        have b4 : wr.cell? ⟨rb, 4, none⟩ = some (.slice o1 0 c1) := HCX.out 4 _ rfl
        have b5 : wr.cell? ⟨rb, 5, none⟩ = some (.slice o2 0 c2) := HCX.out 5 _ rfl
        have b6 : wr.cell? ⟨rb, 6, none⟩ = some (.slice o3 0 c3) := HCX.out 6 _ rfl
        have hee : (E == E) = true := by simp
        have hen : (E != 0) = true := by simpa using hE0
        clear hE0
        go_wp2
        go_ret
        exact ⟨rfl, HBX.out⟩
      · have hm0 : (0 : Int) < (M : Int) := by omega
        have hbb : N = 0 ∧ n0 = 0 ∧ c = 0 ∧ n1 = 0 := by
          rcases HGB.out with ⟨_, h⟩ | ⟨h, _⟩
          · exact h
          · exact absurd h hE0
        obtain ⟨rfl, rfl, rfl, rfl⟩ := hbb
        have b0 : wr.cell? ⟨rb, 0, none⟩ = some (.slice og 0 cg) := HCX.out 0 _ rfl
        have b1 : wr.cell? ⟨rb, 1, none⟩ = some (.slice op 0 cpq) := HCX.out 1 _ rfl
        have b2 : wr.cell? ⟨rb, 2, none⟩ = some (.slice o0 0 c0) := HCX.out 2 _ rfl
        have b3 : wr.cell? ⟨rb, 3, none⟩ = some (.int .i64 0) := HCX.out 3 _ rfl
        have b4 : wr.cell? ⟨rb, 4, none⟩ = some (.slice o1 0 c1) := HCX.out 4 _ rfl
        have b5 : wr.cell? ⟨rb, 5, none⟩ = some (.slice o2 0 c2) := HCX.out 5 _ rfl
        have b6 : wr.cell? ⟨rb, 6, none⟩ = some (.slice o3 0 c3) := HCX.out 6 _ rfl
        have hee : (E == E) = true := by simp
        have hen : (E != 0) = true := by simpa using hE0
        clear hE0
        go_wp2
        go_ret
        exact ⟨rfl, HBX.out⟩
end Go.Proofs.Ytemldminpndemaa
