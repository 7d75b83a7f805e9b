/-
  plans: Assign on the document's example; its walk. Own text.
-/
import Derived.Test.YtjggcnpnjnmamaaAssign
import Derived.Test.YtjggcnpnjnmamaaSameI
import Derived.Test.YtjggcnpnjnmamaaEqInts
namespace Go.Proofs.Ytjggcnpnjnmamaa
open Go.RowKit
set_option linter.unusedVariables false
def ex22 : List (List Int) := [[4, 1], [2, 3]]
theorem ex22_ok : costsErr ex22 = 0 := by decide
theorem ex22_good : GoodCosts ex22 2 := by
  obtain ⟨n, h⟩ := GoodCosts.of ex22_ok
  have := h.len 0 (by decide)
  have e : n = 2 := by rw [← this]; rfl
  subst e
  exact h
/-- The cheapest plan of the example. -/
theorem plan22 {u v : Nat → Int} {pr : Nat → Nat} {press job fee : Nat → Int} {cost : Int} (h : IsPlan 2 2 (cOf ex22) u v pr press job fee cost) : cost = 3 ∧ press 0 = 1 ∧ press 1 = 0 := by
  have h1 := h.p0.prm 1 (by omega) (by omega)
  have h2 := h.p0.prm 2 (by omega) (by omega)
  have h3 : pr 1 ≠ pr 2 := fun e => by have := h.p0.inj 1 2 (by omega) (by omega) (by omega) (by omega) e; omega
  have h4 := h.p0.least (fun r => 3 - r) (fun r r1 r2 => by omega) (fun r r' r1 r2 r1' r2' e => by omega)
  have h5 : sumTo (fun r => cOf ex22 r (3 - r)) 2 = 3 := by decide
  rw [h5] at h4
  have h6 : sumTo (fun r => cOf ex22 r (pr r)) 2 = cOf ex22 1 (pr 1) + cOf ex22 2 (pr 2) := by simp only [sumTo, Nat.zero_add, Nat.reduceAdd]; omega
  rw [h6] at h4
  have hp : pr 1 = 2 ∧ pr 2 = 1 := by
    by_cases e : pr 1 = 1
    · have e2 : pr 2 = 2 := by omega
      rw [e, e2] at h4
      exact absurd h4 (by decide)
    · omega
  have hc := h.cost'
  rw [h6, hp.1, hp.2] at hc
  have p0 := h.pr' 0 (by omega)
  have p1 := h.pr' 1 (by omega)
  simp only [Nat.zero_add] at p0 p1
  rw [hp.1] at p0
  rw [hp.2] at p1
  exact ⟨hc, by omega, by omega⟩
theorem FTab.list {w : World} {g n : Nat} {t : Nat → Int} (h : FTab (Value.int .i64) w g n t) (xs : List Int) (hl : xs.length = n) (hx : ∀ i (hi : i < xs.length), xs[i] = t i) : Flat w 1 encInt (some ⟨g, 0, none⟩) xs := by
  intro i hi j hj
  obtain rfl : j = 0 := by omega
  refine ⟨.int .i64 xs[i], by simp [encInt], g, 0, rfl, ?_⟩
  rw [hx i hi, Nat.mul_one, Nat.add_zero, Nat.zero_add]
  exact h.at' i (by omega)
/-- What Assign returns on the example. -/
def RetEx (w : World) (e : Ending) (w' : World) : Prop :=
  ∃ gp gj gf cj cf : Nat, e = .returned (.tuple #[planV gp gj gf 2 2 cj cf 3, .int .i64 0]) ∧ Flat w' 1 encInt (some ⟨gp, 0, none⟩) [1, 0] ∧ Below w.heap.size w w'
theorem assign_ex (w : World) (b off cap : Nat) (hx : Rows1 w 1 encInt (some ⟨b, off, none⟩) ex22) : Calls Try.prog 14 #[.slice (some ⟨b, off, none⟩) 2 cap] w (RetEx w) := by
  refine (assign_ok b off ex22 cap 2 2 w rfl hx ex22_ok ex22_good).mono ?_
  rintro e w' ⟨gp, gj, gf, cj, cf, u, v, pr, press, job, fee, cost, rfl, hP, hA, hb⟩
  obtain ⟨rfl, h0, h1⟩ := plan22 hP
  refine ⟨gp, gj, gf, cj, cf, rfl, hA.tp.list [1, 0] rfl (fun i hi => ?_), hb⟩
  have : i < 2 := hi
  rcases Nat.lt_or_ge i 1 with h | h
  · obtain rfl : i = 0 := by omega
    exact h0.symm
  · obtain rfl : i = 1 := by omega
    exact h1.symm
theorem exRows (w : World) (e1 e2 e3 : TypeId) : Rows1 (((w.alloc (.cells #[.int .i64 4, .int .i64 1] e1)).alloc (.cells #[.int .i64 2, .int .i64 3] e2)).alloc (.cells #[.slice (some ⟨w.heap.size, 0, none⟩) 2 2, .slice (some ⟨w.heap.size + 1, 0, none⟩) 2 2] e3)) 1 encInt (some ⟨w.heap.size + 1 + 1, 0, none⟩) ex22 := by
  have h1 := IsSlice.litN w 1 encInt [4, 1] e1 (fun _ => rfl) (by decide) 2
  have h2 := IsSlice.litN (w.alloc (.cells #[.int .i64 4, .int .i64 1] e1)) 1 encInt [2, 3] e2 (fun _ => rfl) (by decide) 2
  have h3 := Rows1.lit2 (h1.below (balloc (Below.refl _ _) (.cells #[.int .i64 2, .int .i64 3] e2))) h2 e3
  simp only [World.size_alloc] at h3
  exact h3
theorem plansLEx (w1 : World) (gp : Nat) (o : Obj) (e : TypeId) (hF : Flat w1 1 encInt (some ⟨gp, 0, none⟩) [1, 0]) :
    Calls Try.prog 28 #[.slice (some ⟨gp, 0, none⟩) 2 2, .slice (some ⟨w1.heap.size + 1, 0, none⟩) 2 2] ((w1.alloc o).alloc (.cells #[.int .i64 1, .int .i64 0] e)) fun e' w' => e' = .returned (.bool true) ∧ Below w1.heap.size w1 w' := by
  have hb := balloc (balloc (Below.refl _ w1) o) (.cells #[.int .i64 1, .int .i64 0] e)
  have h1 := hF.below hb
  obtain ⟨oa, c, e1, _, hm, h2⟩ := IsSlice.litN (w1.alloc o) 1 encInt [1, 0] e (fun _ => rfl) (by decide) 2
  simp only [Value.slice.injEq] at e1
  obtain ⟨rfl, _, rfl⟩ := e1
  have h3 := sameInts_any (some ⟨gp, 0, none⟩) (some ⟨(w1.alloc o).heap.size, 0, none⟩) [1, 0] [1, 0] 2 2 _ (by decide) (by decide) h1 h2
  rw [sameB_self, World.size_alloc] at h3
  refine h3.mono ?_
  rintro e' w' ⟨rfl, hb2⟩
  exact ⟨rfl, bthen hb hb2⟩
set_option maxHeartbeats 1000000 in
theorem plansL_any (w : World) : Calls Try.prog 12 #[] w fun e w' => e = .returned (.bool true) ∧ Below w.heap.size w w' := by
  have HX := Lib.hid (exRows w 3 3 25)
  have hb0 := Lib.hid (balloc (balloc (balloc (Below.refl _ w) (.cells #[.int .i64 4, .int .i64 1] 3)) (.cells #[.int .i64 2, .int .i64 3] 3)) (.cells #[.slice (some ⟨w.heap.size, 0, none⟩) 2 2, .slice (some ⟨w.heap.size + 1, 0, none⟩) 2 2] 25))
  go_enter Try.func12, Try.ntmps12
  go_wp2_with (first | (go_at_call 14; (with_reducible refine (assign_ex _ _ _ _ HX.out).mono ?_); rintro e w1 ⟨gp, gj, gf, cj, cf, rfl, hF, hb⟩; unfold planV; have HF := Lib.hid hF; clear hF; have HB := Lib.hid (bthen hb0.out hb); clear hb) | (go_at_call 28; (with_reducible refine (plansLEx _ _ _ _ HF.out).mono ?_); rintro e w2 ⟨rfl, hb2⟩))
  go_ret
  exact ⟨rfl, bthen HB.out hb2⟩
theorem plansKEx (w1 : World) (gp : Nat) (o : Obj) (e : TypeId) (hF : Flat w1 1 encInt (some ⟨gp, 0, none⟩) [1, 0]) :
    Calls Try.prog 39 #[.slice (some ⟨gp, 0, none⟩) 2 2, .slice (some ⟨w1.heap.size + 1, 0, none⟩) 2 2] ((w1.alloc o).alloc (.cells #[.int .i64 1, .int .i64 0] e)) fun e' w' => e' = .returned (.bool true) ∧ Below w1.heap.size w1 w' := by
  have hb := balloc (balloc (Below.refl _ w1) o) (.cells #[.int .i64 1, .int .i64 0] e)
  have h1 := hF.below hb
  obtain ⟨oa, c, e1, _, hm, h2⟩ := IsSlice.litN (w1.alloc o) 1 encInt [1, 0] e (fun _ => rfl) (by decide) 2
  simp only [Value.slice.injEq] at e1
  obtain ⟨rfl, _, rfl⟩ := e1
  have h3 := equalInts_any (some ⟨gp, 0, none⟩) (some ⟨(w1.alloc o).heap.size, 0, none⟩) [1, 0] [1, 0] 2 2 _ (by decide) (by decide) h1 h2
  rw [sameB_self, World.size_alloc] at h3
  refine h3.mono ?_
  rintro e' w' ⟨rfl, hb2⟩
  exact ⟨rfl, bthen hb hb2⟩
set_option maxHeartbeats 1000000 in
theorem plansK_any (w : World) : Calls Try.prog 19 #[] w fun e w' => e = .returned (.bool true) ∧ Below w.heap.size w w' := by
  have HX := Lib.hid (exRows w 3 3 25)
  have hb0 := Lib.hid (balloc (balloc (balloc (Below.refl _ w) (.cells #[.int .i64 4, .int .i64 1] 3)) (.cells #[.int .i64 2, .int .i64 3] 3)) (.cells #[.slice (some ⟨w.heap.size, 0, none⟩) 2 2, .slice (some ⟨w.heap.size + 1, 0, none⟩) 2 2] 25))
  go_enter Try.func19, Try.ntmps19
  go_wp2_with (first | (go_at_call 14; (with_reducible refine (assign_ex _ _ _ _ HX.out).mono ?_); rintro e w1 ⟨gp, gj, gf, cj, cf, rfl, hF, hb⟩; unfold planV; have HF := Lib.hid hF; clear hF; have HB := Lib.hid (bthen hb0.out hb); clear hb) | (go_at_call 39; (with_reducible refine (plansKEx _ _ _ _ HF.out).mono ?_); rintro e w2 ⟨rfl, hb2⟩))
  go_ret
  exact ⟨rfl, bthen HB.out hb2⟩
end Go.Proofs.Ytjggcnpnjnmamaa
