/-
  PlanAssignCheapest: its walk, over opened arguments. Own text.
-/
import Derived.Test.YtjggcnpnjnmamaaBoundsLaw
import Derived.Test.YtjggcnpnjnmamaaAssigned
import Derived.Test.YtjggcnpnjnmamaaTable
import Derived.Handy
namespace Go.Proofs.Ytjggcnpnjnmamaa
open Go.ChangeShapes Go.WideShapes Go.ChangeAt Go.RowKit
set_option linter.unusedVariables false
/-- proofError finds none in a plan of Assign. -/
theorem proof_plan (b off cap : Nat) (rows : List (List Int)) (N m gp gj gf cj cf : Nat) (u v : Nat → Int) (pr : Nat → Nat) (press job fee : Nat → Int) (cost : Int) (w : World) (hNN : N = rows.length) (hG : GoodCosts rows m) (hx : Rows1 w 1 encInt (some ⟨b, off, none⟩) rows)
    (hP : IsPlan N m (cOf rows) u v pr press job fee cost) (tp : FTab (Value.int .i64) w gp N press) (tj : FTab (Value.int .i64) w gj N job) (tf : FTab (Value.int .i64) w gf m fee) :
    Calls Try.prog 18 #[.slice (some ⟨b, off, none⟩) N cap, .agg #[.slice (some ⟨gp, 0, none⟩) N N, .slice (some ⟨gj, 0, none⟩) N cj, .slice (some ⟨gf, 0, none⟩) m cf, .int .i64 cost]] w fun e w' => e = .returned (.int .i64 0) ∧ Below w.heap.size w w' := by
  have hm := hG.n12
  have hn := hG.rn
  have h := proofError_any b off cap rows N m (some ⟨gp, 0, none⟩) (some ⟨gj, 0, none⟩) (some ⟨gf, 0, none⟩) N cj cf (lst N press) (lst N job) (lst m fee) cost w hNN hG hx tp.lst tj.lst tf.lst
    (by rw [lst_length]; unfold maxLen; omega) (by rw [lst_length]; unfold maxLen; omega) (by rw [lst_length]; unfold maxLen; omega)
  rw [lst_length, lst_length, lst_length, hP.noErr hNN] at h
  exact h
theorem opens_intsC {P : Program} {w : World} {t e : TypeId} (ht : P.underlying t = some (.slice e)) (hk : P.cellsOf e = 1) (he : P.underlying e = some (.int .i64)) :
    Opens P w t (fun cs (xs : List Int) => ∃ oa cap, cs = [.slice oa xs.length cap] ∧ xs.length ≤ cap ∧ xs.length ≤ maxLen ∧ (oa = none → cap = 0) ∧ Flat w 1 encInt oa xs) := by
  intro H enc sp held fuel cs x h
  obtain ⟨xs, oa, cap, h1, h2, h3, h4, h5⟩ := opens_slice0 ht (by omega) (opens_int he) H enc sp held fuel cs x h
  rw [hk] at h5
  exact ⟨xs, oa, cap, h1, h2, by omega, h4, h5.flat (fun cs n hr => hr.1)⟩
/-- An argument of rows, with room. -/
def RowsArgC (w : World) (v : Value) : Prop := ∃ (rows : List (List Int)) (oa : Option Addr) (cap : Nat), v = .slice oa rows.length cap ∧ rows.length ≤ maxLen ∧ rows.length ≤ cap ∧ (oa = none → cap = 0) ∧ RowsCap w oa rows
theorem open_rowsC {H : Type} {enc : TypeId × Value → H} {w : World} {sp : Nat → Bool} {held : Bool} {r : Reach} {b0 : Nat} {v : Value} {d : DataW H} {ps : List MemPlace}
    (hval : Value.okWide Try.prog w r b0 22 v) (hd : DataW.Trod enc Try.prog w 0 sp held 22 v d ps) : RowsArgC w v := by
  obtain ⟨a0, len, c, rfl⟩ := okWide_slice Try.underlying22 hval
  obtain ⟨fuel, hf⟩ := hd
  obtain ⟨rows, oa, cap, h1, h2, h3, h4, h5⟩ := opens_slice0 Try.underlying22 (by rw [cellsInts]; omega) (opens_intsC Try.underlying25 cellsInt Try.underlying3) _ _ _ _ _ _ _ hf
  simp [Value.cells] at h1
  obtain ⟨rfl, rfl, rfl⟩ := h1
  rw [cellsInts] at h5
  refine ⟨rows, _, _, rfl, by omega, h2, h4, fun i hi => ?_⟩
  obtain ⟨b, off, cs', e1, e2, e3, oa', cap', rfl, e4, e5, e6, e7⟩ := h5 i hi
  refine ⟨b, off, oa', cap', e1, ?_, e4, e5, e6, e7⟩
  have := e3 0 _ rfl
  simpa using this
set_option maxHeartbeats 4000000 in
theorem cheap_bad (oa : Option Addr) (rows : List (List Int)) (cap : Nat) (w : World) (hm : rows.length ≤ maxLen) (hcap : rows.length ≤ cap) (h0 : oa = none → cap = 0) (hx : RowsCap w oa rows) (hc : costsErr (tabV rows) ≠ 0) :
    Calls Try.prog 3 #[.slice oa rows.length cap] w fun e w' => e = .returned (.bool true) ∧ Below w.heap.size w w' := by
  obtain ⟨E, hE⟩ : ∃ E, E = costsErr (tabV rows) := ⟨_, rfl⟩
  obtain ⟨N, hN⟩ : ∃ N, N = (tabV rows).length := ⟨_, rfl⟩
  have hmT : (tabV rows).length ≤ maxLen := by rw [tabV_length]; unfold maxLen at hm ⊢; omega
  have HT := Lib.hid (fun w1 (hb : Below w.heap.size w w1) => table_any oa rows cap w1 hm hcap (hx.below hb) h0)
  have HA := Lib.hid (fun oa' cap' w1 hx' => assign_bad oa' (tabV rows) cap' w1 hmT hx' hc)
  have HK := Lib.hid (fun oa' cap' w1 hx' => check_any oa' (tabV rows) cap' w1 hmT hx')
  have HC := Lib.hid (fun oa' cap' w1 hx' => costsError_any oa' (tabV rows) cap' w1 hmT hx')
  rw [← hE] at HA HC HK
  rw [← hN] at HA HC HK
  have h1 : (E != 0) = true := by rw [hE]; exact bne_iff_ne.2 hc
  have h2 : (E == E) = true := by simp
  have h3 : (E != E) = false := by simp
  have HN := Lib.hid hN
  unfold noPlan at HA
  clear hE hx hc hN h0
  go_enter Try.func3, Try.ntmps3
  go_wp2_with (first | (go_at_call 12; (with_reducible refine (plansL_any _).mono ?_); rintro e w1 ⟨rfl, hb1⟩; have HB1 := Lib.hid hb1; clear hb1) | (go_at_call 13; (with_reducible refine (HT.out _ HB1.out).mono ?_); rintro e w2 ⟨oa', cap', rfl, hr2, hb2⟩; rw [← HN.out]; have HR2 := Lib.hid hr2; have HB2 := Lib.hid (bthen HB1.out hb2); clear hb2 hr2) | (go_at_call 14; (with_reducible refine (HA.out _ _ _ HR2.out).mono ?_); rintro e w3 ⟨rfl, hb3⟩; have HB3 := Lib.hid (balloc (bthen HB2.out hb3) (.cells #[.slice none 0 0, .slice none 0 0, .slice none 0 0, .int .i64 0] 27)); have HR3 := Lib.hid (HR2.out.below (balloc hb3 (.cells #[.slice none 0 0, .slice none 0 0, .slice none 0 0, .int .i64 0] 27))); clear hb3) | (go_at_call 15; (with_reducible refine (HC.out _ _ _ HR3.out).mono ?_); rintro e w' ⟨rfl, rfl⟩) | (go_at_call 16; (with_reducible refine (HK.out _ _ _ HR3.out).mono ?_); rintro e w' ⟨rfl, rfl⟩))
  go_ret
  exact ⟨rfl, HB3.out⟩
set_option maxRecDepth 100000 in
set_option maxHeartbeats 4000000 in
theorem cheap_ok (oa : Option Addr) (rows : List (List Int)) (cap m : Nat) (w : World) (hm : rows.length ≤ maxLen) (hcap : rows.length ≤ cap) (h0 : oa = none → cap = 0) (hx : RowsCap w oa rows) (hc : costsErr (tabV rows) = 0) (hG : GoodCosts (tabV rows) m) :
    Calls Try.prog 3 #[.slice oa rows.length cap] w fun e w' => e = .returned (.bool true) ∧ Below w.heap.size w w' := by
  obtain ⟨T, hT⟩ : ∃ T, T = tabV rows := ⟨_, rfl⟩
  obtain ⟨N, hN⟩ : ∃ N, N = T.length := ⟨_, rfl⟩
  rw [← hT] at hc hG
  have hm12 := hG.n12
  have hrn := hG.rn
  have hr1 := hG.r1
  rw [← hN] at hrn hr1
  have HT : Hid (∀ w1 (hb : Below w.heap.size w w1), Calls Try.prog 13 #[.slice oa rows.length cap] w1 fun e w2 => ∃ b off cap', e = .returned (.slice (some ⟨b, off, none⟩) N cap') ∧ Rows1 w2 1 encInt (some ⟨b, off, none⟩) T ∧ Below w1.heap.size w1 w2) := by
    intro w1 hb
    refine (table_any oa rows cap w1 hm hcap (hx.below hb) h0).mono ?_
    rintro e w2 ⟨oa', cap', rfl, hr, hb2⟩
    rw [← hT] at hr
    obtain ⟨b, off, rfl⟩ := hr.some hG.r1
    exact ⟨b, off, cap', by rw [← hT, ← hN], hr, hb2⟩
  have HA := Lib.hid (fun b off cap' w1 hx' => assign_ok b off T cap' N m w1 hN hx' hc hG)
  have HK : Hid (∀ b off cap' w1, Rows1 w1 1 encInt (some ⟨b, off, none⟩) T → Calls Try.prog 16 #[.slice (some ⟨b, off, none⟩) N cap'] w1 fun e w' => e = .returned (.int .i64 0) ∧ w1 = w') := fun b off cap' w1 hx' => by
    have h := check_any (some ⟨b, off, none⟩) T cap' w1 (by rw [← hN]; unfold maxLen; omega) hx'
    rw [hc, ← hN] at h
    exact h
  have HC : Hid (∀ b off cap' w1, Rows1 w1 1 encInt (some ⟨b, off, none⟩) T → Calls Try.prog 15 #[.slice (some ⟨b, off, none⟩) N cap'] w1 fun e w' => e = .returned (.int .i64 0) ∧ w1 = w') := fun b off cap' w1 hx' => by
    have h := costsError_any (some ⟨b, off, none⟩) T cap' w1 (by rw [← hN]; unfold maxLen; omega) hx'
    rw [hc, ← hN] at h
    exact h
  have HN := Lib.hid hN
  have HG := Lib.hid hG
  have hz1 : 0 < N := by omega
  have hz2 : 0 < m := by omega
  clear hT hN hc hG hx h0
  go_enter Try.func3, Try.ntmps3
  go_wp2_with (first | (go_at_call 12; (with_reducible refine (plansL_any _).mono ?_); rintro e w1 ⟨rfl, hb1⟩; have HB1 := Lib.hid hb1; clear hb1) | (go_at_call 13; (with_reducible refine (HT.out _ HB1.out).mono ?_); rintro e w2 ⟨b, off, cap', rfl, hr2, hb2⟩; have HR2 := Lib.hid hr2; have HB2 := Lib.hid (bthen HB1.out hb2); clear hb2 hr2) | (go_at_call 14; (with_reducible refine (HA.out _ _ _ _ HR2.out).mono ?_); rintro e w3 ⟨gp, gj, gf, cj, cf, u, v, pr, press, job, fee, cost, rfl, hP, hAt, hb3⟩; unfold planV; have HP := Lib.hid hP; have HB3 := Lib.hid (balloc (bthen HB2.out hb3) (.cells #[.slice (some ⟨gp, 0, none⟩) N N, .slice (some ⟨gj, 0, none⟩) N cj, .slice (some ⟨gf, 0, none⟩) m cf, .int .i64 cost] 27)); have HR3 := Lib.hid (HR2.out.below (balloc hb3 (.cells #[.slice (some ⟨gp, 0, none⟩) N N, .slice (some ⟨gj, 0, none⟩) N cj, .slice (some ⟨gf, 0, none⟩) m cf, .int .i64 cost] 27))); have HA3 := Lib.hid (hAt.alloc hz1 hz2 (.cells #[.slice (some ⟨gp, 0, none⟩) N N, .slice (some ⟨gj, 0, none⟩) N cj, .slice (some ⟨gf, 0, none⟩) m cf, .int .i64 cost] 27)); clear hb3 hP hAt) | (go_at_call 15; (with_reducible refine (HC.out _ _ _ _ HR3.out).mono ?_); rintro e w' ⟨rfl, rfl⟩) | (go_at_call 16; (with_reducible refine (HK.out _ _ _ _ HR3.out).mono ?_); rintro e w' ⟨rfl, rfl⟩))
  obtain ⟨oa0, cap0, c0⟩ := rowZero HR3.out HG.out
  obtain ⟨r0, r1, r2, r3, _⟩ := resCells (Below.refl _ (w3.alloc (.cells #[.slice (some ⟨gp, 0, none⟩) N N, .slice (some ⟨gj, 0, none⟩) N cj, .slice (some ⟨gf, 0, none⟩) m cf, .int .i64 cost] 27)))
  generalize w3.alloc (.cells #[.slice (some ⟨gp, 0, none⟩) N N, .slice (some ⟨gj, 0, none⟩) N cj, .slice (some ⟨gf, 0, none⟩) m cf, .int .i64 cost] 27) = w4 at *
  have HASG : Hid (∀ w', Below w4.heap.size w4 w' → FTab Value.bool w' w4.heap.size m (fun _ => false) → Calls Try.prog 17 #[.slice (some ⟨b, off, none⟩) N cap', .int .i64 0, .slice (some ⟨w4.heap.size, 0, none⟩) m m] w' fun e w'' => e = .returned (.int .i64 cost) ∧ Below w4.heap.size w' w'') := by
    intro w' hb' ht'
    refine (assigned_any b off cap' T N m w4.heap.size w4 HN.out HG.out HR3.out (Nat.le_refl _) N (fun _ => false) 0 w' (by omega) (by rw [freeN_none]; exact hrn) hb' ht').mono ?_
    rintro e w'' ⟨rfl, hb'', _⟩
    rw [HP.out.asg hrn HG.out.c]
    exact ⟨rfl, hb''⟩
  have HPE : Hid (∀ w', Below w4.heap.size w4 w' → Calls Try.prog 18 #[.slice (some ⟨b, off, none⟩) N cap', .agg #[.slice (some ⟨gp, 0, none⟩) N N, .slice (some ⟨gj, 0, none⟩) N cj, .slice (some ⟨gf, 0, none⟩) m cf, .int .i64 cost]] w' fun e w'' => e = .returned (.int .i64 0) ∧ Below w'.heap.size w' w'') := by
    intro w' hb'
    have hA' := HA3.out.below hz1 hz2 hb'
    exact proof_plan b off cap' T N m gp gj gf cj cf u v pr press job fee cost w' HN.out HG.out (HR3.out.below hb') HP.out hA'.tp hA'.tj hA'.tf
  have hS : Hid (∀ w', Below w4.heap.size w4 w' → (Below w4.heap.size w4 w' ∧ w'.cell? ⟨b, off, none⟩ = some (.slice oa0 m cap0) ∧ w'.cell? ⟨w3.heap.size, 0, none⟩ = some (.slice (some ⟨gp, 0, none⟩) N N) ∧ w'.cell? ⟨w3.heap.size, 1, none⟩ = some (.slice (some ⟨gj, 0, none⟩) N cj) ∧ w'.cell? ⟨w3.heap.size, 2, none⟩ = some (.slice (some ⟨gf, 0, none⟩) m cf) ∧ w'.cell? ⟨w3.heap.size, 3, none⟩ = some (.int .i64 cost))) := fun w' hb' => ⟨hb', keepCell hb' c0, keepCell hb' r0, keepCell hb' r1, keepCell hb' r2, keepCell hb' r3⟩
  have mk1 := run_makeArr (P := Try.prog) elemBool Try.underlying33 (.bool false) rfl m (by omega) (by omega)
  have q1 : (cost == cost) = true := by simp
  have i1 : (0 : Int) < (N : Int) := by omega
  clear HT HA HK HC
  go_wp2
  go_region_held3 (fun w' => Below w4.heap.size w4 w' ∧ w'.cell? ⟨b, off, none⟩ = some (.slice oa0 m cap0) ∧ w'.cell? ⟨w3.heap.size, 0, none⟩ = some (.slice (some ⟨gp, 0, none⟩) N N) ∧ w'.cell? ⟨w3.heap.size, 1, none⟩ = some (.slice (some ⟨gj, 0, none⟩) N cj) ∧ w'.cell? ⟨w3.heap.size, 2, none⟩ = some (.slice (some ⟨gf, 0, none⟩) m cf) ∧ w'.cell? ⟨w3.heap.size, 3, none⟩ = some (.int .i64 cost))
    ((refine hS.out _ ?_; go_grown))
    (first | fail | (go_simp; go_at_call 17; (with_reducible refine (HASG.out _ (And.left (by assumption)) (by first | exact FTab.made Value.bool _ m false _ | exact (FTab.made Value.bool _ m false _).drew | exact (FTab.made Value.bool _ m false _).drewN _)).mono ?_); rintro e w5 ⟨rfl, hb5⟩; have hz5 : Below w4.heap.size w4 w5 := Below.trans (And.left (by assumption)) hb5; clear hb5) | (go_simp; go_at_call 18; (with_reducible refine (HPE.out _ (And.left (by assumption))).mono ?_); rintro e w6 ⟨rfl, hb6⟩; have hz6 : Below w4.heap.size w4 w6 := bthen (And.left (by assumption)) hb6; clear hb6))
  all_goals
    go_wp2
    go_ret
    exact ⟨rfl, bthen HB3.out (by first | exact hz6 | exact hz6.drew | exact bdrewN hz6 _)⟩
theorem cheap_law (v : Value) {w : World} (hv : RowsArgC w v) :
    Calls Try.prog 3 #[v] w fun e w' => e = .returned (.bool true) ∧ Below w.heap.size w w' := by
  obtain ⟨rows, oa, cap, rfl, hm, hcap, h0, hx⟩ := hv
  by_cases hc : costsErr (tabV rows) = 0
  · obtain ⟨m, hG⟩ := GoodCosts.of hc
    exact cheap_ok oa rows cap m w hm hcap h0 hx hc hG
  · exact cheap_bad oa rows cap w hm hcap h0 hx hc
end Go.Proofs.Ytjggcnpnjnmamaa
