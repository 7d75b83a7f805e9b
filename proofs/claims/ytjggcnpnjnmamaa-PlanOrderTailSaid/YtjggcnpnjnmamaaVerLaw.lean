/-
  PlanVerifyAccepts: its walk, over opened arguments. Own text.
-/
import Derived.Test.YtjggcnpnjnmamaaRowsArg
import Derived.Test.YtjggcnpnjnmamaaPlans
import Derived.Test.YtjggcnpnjnmamaaVerify
import Derived.Test.YtjggcnpnjnmamaaCostsError
namespace Go.Proofs.Ytjggcnpnjnmamaa
open Go.ChangeShapes Go.WideShapes Go.ChangeAt Go.RowKit
set_option linter.unusedVariables false
theorem cellsInt : Try.prog.cellsOf 3 = 1 := by kernel_rfl
theorem cellsInts : Try.prog.cellsOf 25 = 1 := by kernel_rfl
theorem cellsDual : Try.prog.cellsOf 27 = 4 := by kernel_rfl
/-- An argument that is a plan. -/
def DualArg (w : World) (v : Value) : Prop := ∃ (op oj of : Option Addr) (cp cj cf : Nat) (press job fee : List Int) (cost : Int), v = .agg #[.slice op press.length cp, .slice oj job.length cj, .slice of fee.length cf, .int .i64 cost] ∧
  Flat w 1 encInt op press ∧ Flat w 1 encInt oj job ∧ Flat w 1 encInt of fee ∧ press.length ≤ maxLen ∧ job.length ≤ maxLen ∧ fee.length ≤ maxLen
theorem opens_dual (w : World) : Opens Try.prog w 27 (fun cs (v : Value) => v.cells.toList = cs ∧ DualArg w v) := by
  intro H enc sp held fuel cs x h
  obtain ⟨xs, n, _, _, hl, hlen, hf⟩ := DataW.trod_struct Try.underlying27 h
  rw [cellsDual] at hl
  match cs, hl with
  | [a, b, c, d], _ =>
    have l4 : xs.length = 4 := hlen
    have e0 := (hf 0 _ rfl).trans (List.getElem?_eq_getElem (by omega))
    have e1 := (hf 1 _ rfl).trans (List.getElem?_eq_getElem (by omega))
    have e2 := (hf 2 _ rfl).trans (List.getElem?_eq_getElem (by omega))
    have e3 := (hf 3 _ rfl).trans (List.getElem?_eq_getElem (by omega))
    obtain ⟨p0, v0, h0, s0, _⟩ := opens_ints Try.underlying25 cellsInt Try.underlying3 _ _ _ _ _ _ _ e0
    obtain ⟨p1, v1, h1, s1, _⟩ := opens_ints Try.underlying25 cellsInt Try.underlying3 _ _ _ _ _ _ _ e1
    obtain ⟨p2, v2, h2, s2, _⟩ := opens_ints Try.underlying25 cellsInt Try.underlying3 _ _ _ _ _ _ _ e2
    obtain ⟨p3, h3, _, _⟩ := DataW.trod_int Try.underlying3 e3
    simp [cellsInt, cellsInts] at h0 h1 h2 h3
    subst h0 h1 h2 h3
    obtain ⟨op, cp, rfl, _, m0, f0⟩ := s0
    obtain ⟨oj, cj, rfl, _, m1, f1⟩ := s1
    obtain ⟨of, cf, rfl, _, m2, f2⟩ := s2
    exact ⟨.agg #[.slice op p0.length cp, .slice oj p1.length cj, .slice of p2.length cf, .int .i64 p3], rfl, op, oj, of, cp, cj, cf, p0, p1, p2, p3, rfl, f0, f1, f2, m0, m1, m2⟩
theorem open_dual {H : Type} {enc : TypeId × Value → H} {w : World} {sp : Nat → Bool} {held : Bool} {r : Reach} {b0 : Nat} {v : Value} {d : DataW H} {ps : List MemPlace}
    (hval : Value.okWide Try.prog w r b0 27 v) (hd : DataW.Trod enc Try.prog w 0 sp held 27 v d ps) : DualArg w v := by
  obtain ⟨cs, rfl, _⟩ := okWide_struct Try.underlying27 hval
  obtain ⟨fuel, hf⟩ := hd
  obtain ⟨v, hv, hD⟩ := opens_dual w _ _ _ _ _ _ _ hf
  have hD2 := hD
  obtain ⟨op, oj, of, cp, cj, cf, press, job, fee, cost, rfl, _⟩ := hD2
  have e : cs = #[.slice op press.length cp, .slice oj job.length cj, .slice of fee.length cf, .int .i64 cost] := by
    apply Array.toList_inj.1
    simpa [Value.cells] using hv.symm
  subst e
  exact hD
/-- What Verify answers. -/
def verErr (rows : List (List Int)) (press job fee : List Int) (cost : Int) : Int :=
  if costsErr rows = 0 then proofErr rows (rows.headD []).length press job fee cost else costsErr rows
theorem GoodCosts.head {rows : List (List Int)} {n : Nat} (h : GoodCosts rows n) : (rows.headD []).length = n := by
  have h1 := h.r1
  cases rows with
  | nil => cases h1
  | cons r l => exact h.len 0 (by simp)
theorem Rows1.some {α : Type} {w : World} {k : Nat} {enc : α → List Value} {oa : Option Addr} {rows : List (List α)} (h : Rows1 w k enc oa rows) (h1 : 1 ≤ rows.length) : ∃ b off, oa = some ⟨b, off, none⟩ := by
  obtain ⟨b, off, v, e, _⟩ := h 0 h1
  exact ⟨b, off, e⟩
theorem verify_any (oa : Option Addr) (rows : List (List Int)) (cap : Nat) (op oj of : Option Addr) (cp cj cf : Nat) (press job fee : List Int) (cost : Int) (w : World) (hm : rows.length ≤ maxLen) (hx : Rows1 w 1 encInt oa rows)
    (hp : Flat w 1 encInt op press) (hj : Flat w 1 encInt oj job) (hf : Flat w 1 encInt of fee) (lp : press.length ≤ maxLen) (lj : job.length ≤ maxLen) (lf : fee.length ≤ maxLen) :
    Calls Try.prog 22 #[.slice oa rows.length cap, .agg #[.slice op press.length cp, .slice oj job.length cj, .slice of fee.length cf, .int .i64 cost]] w fun e w' => e = .returned (.int .i64 (verErr rows press job fee cost)) ∧ Below w.heap.size w w' := by
  unfold verErr
  by_cases hc : costsErr rows = 0
  · obtain ⟨m, hG⟩ := GoodCosts.of hc
    obtain ⟨b, off, rfl⟩ := hx.some hG.r1
    rw [if_pos hc, hG.head]
    exact verify_ok b off cap rows rows.length m op oj of cp cj cf press job fee cost w rfl hG hc hx hp hj hf lp lj lf
  · rw [if_neg hc]
    exact verify_bad oa rows cap _ _ _ _ w hm hx hc
theorem proofError_0 (oa : Option Addr) (rows : List (List Int)) (cap : Nat) (op oj of : Option Addr) (cp cj cf : Nat) (press job fee : List Int) (cost : Int) (w : World) (hc : costsErr rows = 0) (hx : Rows1 w 1 encInt oa rows)
    (hp : Flat w 1 encInt op press) (hj : Flat w 1 encInt oj job) (hf : Flat w 1 encInt of fee) (lp : press.length ≤ maxLen) (lj : job.length ≤ maxLen) (lf : fee.length ≤ maxLen) :
    Calls Try.prog 18 #[.slice oa rows.length cap, .agg #[.slice op press.length cp, .slice oj job.length cj, .slice of fee.length cf, .int .i64 cost]] w fun e w' => e = .returned (.int .i64 (verErr rows press job fee cost)) ∧ Below w.heap.size w w' := by
  unfold verErr
  obtain ⟨m, hG⟩ := GoodCosts.of hc
  obtain ⟨b, off, rfl⟩ := hx.some hG.r1
  rw [if_pos hc, hG.head]
  exact proofError_any b off cap rows rows.length m op oj of cp cj cf press job fee cost w rfl hG hx hp hj hf lp lj lf
set_option maxHeartbeats 2000000 in
theorem accepts_law (v : Value) {w : World} (hv : RowsArg w v) (u : Value) (hu : DualArg w u) :
    Calls Try.prog 5 #[v, u] w fun e w' => e = .returned (.bool true) ∧ Below w.heap.size w w' := by
  obtain ⟨rows, oa, cap, rfl, hm, _, _, hx, _⟩ := hv
  obtain ⟨op, oj, of, cp, cj, cf, press, job, fee, cost, rfl, hp, hj, hf, lp, lj, lf⟩ := hu
  obtain ⟨X, hX⟩ : ∃ X, X = verErr rows press job fee cost := ⟨_, rfl⟩
  obtain ⟨E, hE⟩ : ∃ E, E = costsErr rows := ⟨_, rfl⟩
  have HC := Lib.hid (fun w1 (hb : Below w.heap.size w w1) => costsError_any oa rows cap w1 hm (hx.below hb))
  have HV := Lib.hid (fun w1 (hb : Below w.heap.size w w1) => verify_any oa rows cap op oj of cp cj cf press job fee cost w1 hm (hx.below hb) (hp.below hb) (hj.below hb) (hf.below hb) lp lj lf)
  have HP : Hid (E = 0 → ∀ w1 (hb : Below w.heap.size w w1), Calls Try.prog 18 #[.slice oa rows.length cap, .agg #[.slice op press.length cp, .slice oj job.length cj, .slice of fee.length cf, .int .i64 cost]] w1 fun e w' => e = .returned (.int .i64 X) ∧ Below w1.heap.size w1 w') := by
    intro h0 w1 hb
    rw [hX]
    exact proofError_0 oa rows cap op oj of cp cj cf press job fee cost w1 (by rw [← hE]; exact h0) (hx.below hb) (hp.below hb) (hj.below hb) (hf.below hb) lp lj lf
  rw [← hX] at HV
  rw [← hE] at HC
  have HB0 := Lib.hid (balloc (Below.refl _ w) (.cells #[.slice op press.length cp, .slice oj job.length cj, .slice of fee.length cf, .int .i64 cost] 27))
  have hXE : Hid (E ≠ 0 → X = E) := by
    intro h0
    rw [hX, hE]
    unfold verErr
    rw [if_neg (by rw [← hE]; exact h0)]
  have hXX : (X == X) = true := by simp
  clear hX hE hx hp hj hf
  by_cases h0 : E = 0
  · have HP2 := Lib.hid (HP.out h0)
    have h1 : (E == 0) = true := by simp [h0]
    clear h0 HP
    go_enter Try.func5, Try.ntmps5
    go_wp2_with (first | (go_at_call 12; (with_reducible refine (plansL_any _).mono ?_); rintro e w1 ⟨rfl, hb1⟩; have HB1 := Lib.hid (bthen HB0.out hb1); obtain ⟨r0, r1, r2, r3, _⟩ := resCells hb1; clear hb1) | (go_at_call 15; (with_reducible refine (HC.out _ HB1.out).mono ?_); rintro e w' ⟨rfl, rfl⟩) | (go_at_call 18; (with_reducible refine (HP2.out _ HB1.out).mono ?_); rintro e w2 ⟨rfl, hb2⟩; have HB2 := Lib.hid (bthen HB1.out hb2); have t0 := keepCell hb2 r0; have t1 := keepCell hb2 r1; have t2 := keepCell hb2 r2; have t3 := keepCell hb2 r3; clear hb2) | (go_at_call 22; (with_reducible refine (HV.out _ HB2.out).mono ?_); rintro e w3 ⟨rfl, hb3⟩))
    go_ret
    exact ⟨rfl, bthen HB2.out hb3⟩
  · have h1 : (E == 0) = false := by simp [h0]
    have hx2 := hXE.out h0
    subst hx2
    clear h0 HP
    go_enter Try.func5, Try.ntmps5
    go_wp2_with (first | (go_at_call 12; (with_reducible refine (plansL_any _).mono ?_); rintro e w1 ⟨rfl, hb1⟩; have HB1 := Lib.hid (bthen HB0.out hb1); obtain ⟨r0, r1, r2, r3, _⟩ := resCells hb1; clear hb1) | (go_at_call 15; (with_reducible refine (HC.out _ HB1.out).mono ?_); rintro e w' ⟨rfl, rfl⟩) | (go_at_call 22; (with_reducible refine (HV.out _ HB1.out).mono ?_); rintro e w3 ⟨rfl, hb3⟩))
    go_ret
    exact ⟨rfl, bthen HB1.out hb3⟩
theorem open_rows {H : Type} {enc : TypeId × Value → H} {w : World} {sp : Nat → Bool} {held : Bool} {r : Reach} {b0 : Nat} {v : Value} {d : DataW H} {ps : List MemPlace}
    (hval : Value.okWide Try.prog w r b0 22 v) (hd : DataW.Trod enc Try.prog w 0 sp held 22 v d ps) : RowsArg w v :=
  open_rowsArg Try.underlying22 Try.underlying25 cellsInts cellsInt Try.underlying3 hval hd
end Go.Proofs.Ytjggcnpnjnmamaa
