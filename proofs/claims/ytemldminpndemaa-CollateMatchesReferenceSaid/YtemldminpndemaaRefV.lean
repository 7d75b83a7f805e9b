/-
  What the document says of faults; equal rows; the first example as printworkslaw4 asks for it. Own text.
-/
import Derived.Test.YtemldminpndemaaColl4
import Derived.Test.YtemldminpndemaaColld
import Derived.Test.YtemldminpndemaaFErr
import Derived.Test.YtemldminpndemaaIn
namespace Go.Proofs.Ytemldminpndemaa
open Go.RowKit
set_option linter.unusedVariables false
/-! ### The faults' first error, step by step -/
def stepE (n : Nat) (x : Ft) (pre : List Ft) : Int := if badF n x then 3 else if pre.any (sameF x) then 7 else 0
theorem stepE_zero (n : Nat) (x : Ft) : stepE n x [] = if badF n x then 3 else 0 := by unfold stepE; simp
theorem stepE_succ (n : Nat) (x : Ft) (l : List Ft) (j : Nat) (h : j < l.length) : stepE n x (l.take (j + 1)) = if stepE n x (l.take j) = 0 ∧ sameF x l[j] = true then 7 else stepE n x (l.take j) := by
  unfold stepE
  rw [List.take_succ_eq_append_getElem h, List.any_append]
  by_cases hb : badF n x
  · simp [hb]
  · simp only [if_neg hb]
    by_cases ha : (l.take j).any (sameF x) = true
    · simp [ha]
    · simp only [Bool.not_eq_true] at ha
      simp [ha]
theorem fltScan_step (n : Nat) (F : List Ft) (q : Nat) (h : q < F.length) : fltScan n (F.take q) (F.drop q) = if stepE n F[q] (F.take q) = 0 then fltScan n (F.take (q + 1)) (F.drop (q + 1)) else stepE n F[q] (F.take q) := by
  rw [List.drop_eq_getElem_cons h, List.take_succ_eq_append_getElem h]
  unfold stepE
  conv => lhs; unfold fltScan
  by_cases hb : badF n F[q]
  · simp [hb]
  · simp only [if_neg hb]
    by_cases ha : (F.take q).any (sameF F[q]) = true
    · simp [ha]
    · simp only [Bool.not_eq_true] at ha
      simp [ha]
theorem fltScan_end (n : Nat) (F : List Ft) : fltScan n (F.take F.length) (F.drop F.length) = 0 := by
  rw [List.drop_length]
  rfl
/-! ### Equal rows -/
set_option maxHeartbeats 1000000 in
theorem same_flat (oa ob : Option Addr) (xs : List Int) (ca cb : Nat) (w : World) (hm : xs.length ≤ maxLen) (hx : Flat w 1 encInt oa xs) (hy : Flat w 1 encInt ob xs) :
    Calls Try.prog 14 #[.slice oa xs.length ca, .slice ob xs.length cb] w fun e w' => e = .returned (.bool true) ∧ ∃ q, w' = w.drewN q := by
  have HX := Lib.hid hx
  have HY := Lib.hid hy
  obtain ⟨n, hn⟩ : ∃ n, n = xs.length := ⟨_, rfl⟩
  have HN := Lib.hid hn
  rw [← hn] at hm ⊢
  clear hx hy hn
  have hm : n ≤ 9223372036854775807 := by unfold maxLen at hm; omega
  have hnn : ((n : Int) != (n : Int)) = false := by simp
  go_enter Try.func14, Try.ntmps14
  go_wp2
  go_loopw [13] (fun i wr => ∃ k : Nat, k ≤ n ∧ i = .int .i64 k ∧ Hid (∃ q, wr = w.drewN q)) (fun i _ => n - (intOf i).toNat)
  case atStart => exact ⟨0, by omega, rfl, 0, rfl⟩
  case round =>
    obtain ⟨k, hk, rfl, HQ⟩ := hrel
    by_cases hlt : k < n
    · have hkx : k < xs.length := by have := HN.out; omega
      obtain ⟨b, off, rfl, h1⟩ := HX.out.int hkx
      obtain ⟨b', off', rfl, h2⟩ := HY.out.int hkx
      have c1 : wr.cell? ⟨b, off + k, none⟩ = some (.int .i64 xs[k]) := by obtain ⟨q, hq⟩ := HQ.out; rw [hq]; exact h1
      have c2 : wr.cell? ⟨b', off' + k, none⟩ = some (.int .i64 xs[k]) := by obtain ⟨q, hq⟩ := HQ.out; rw [hq]; exact h2
      obtain ⟨x, hx⟩ : ∃ x, x = xs[k] := ⟨_, rfl⟩
      rw [← hx] at c1 c2
      have hxx : (x != x) = false := by simp
      have kd : (k : Int) < (n : Int) := by omega
      have k0 : (0 : Int) ≤ (k : Int) := by omega
      clear hx h1 h2
      go_wp2
      go_quiet (fail)
      have HNX : Hid (∃ q, wr.drewN nq = w.drewN q) := by obtain ⟨q, hq⟩ := HQ.out; exact ⟨q + nq, by rw [hq, drewN_drewN]⟩
      go_wp2
      go_roundw
      case rel => exact ⟨k + 1, by omega, by go_num, HNX⟩
      case measure => simp [intOf]; omega
    · obtain rfl : n = k := by omega
      go_wp2
      go_ret
      exact ⟨rfl, HQ.out⟩
theorem same_is (v u : Value) (xs : List Int) (w : World) (h : IsSlice w 1 encInt v xs) (h' : IsSlice w 1 encInt u xs) :
    Calls Try.prog 14 #[v, u] w fun e w' => e = .returned (.bool true) ∧ ∃ q, w' = w.drewN q := by
  obtain ⟨oa, c, rfl, h0, hm, hf⟩ := h
  obtain ⟨oa', c', rfl, h0', _, hf'⟩ := h'
  exact same_flat oa oa' xs c c' w hm hf hf'
theorem same_bel (v u : Value) (xs : List Int) (w : World) (h : IsSlice w 1 encInt v xs) (h' : IsSlice w 1 encInt u xs) :
    Calls Try.prog 14 #[v, u] w fun e w' => e = .returned (.bool true) ∧ Below w.heap.size w w' :=
  (same_is v u xs w h h').mono fun e w' ⟨h1, q, h2⟩ => ⟨h1, by rw [h2]; exact bdrewN (Below.refl _ _) q⟩
theorem lit2 {W : World} {b : Nat} (h : W.heap.size = b) (x y : Int) : IsSlice (W.alloc (.cells #[.int .i64 x, .int .i64 y] 3)) 1 encInt (.slice (some ⟨b, 0, none⟩) 2 2) [x, y] := by
  subst h
  exact IsSlice.litN W 1 encInt [x, y] _ (fun _ => rfl) (by unfold maxLen; simp) 2
set_option maxRecDepth 100000 in
set_option maxHeartbeats 4000000 in
theorem collatesL_any (w : World) : Calls Try.prog 8 #[] w (RetTrue w) := by
  go_enter Try.func8, Try.ntmps8
  go_wp2_with fail
  refine (ex_run w).mono ?_
  rintro e w2 h
  obtain ⟨c, og, cg, op, cp, o0, c0, o1, c1, o2, c2, o3, c3, Z, rfl, h1, h2, h3, hb⟩ := ex_ret h
  have HB := Lib.hid ((exW_below w).trans (hb.mono (exW_below w).size))
  have HG := Lib.hid (h1.isSlice (fun _ => rfl))
  have HM := Lib.hid (h2.isSlice (fun _ => rfl))
  have HW := Lib.hid (h3.isSlice (fun _ => rfl))
  have HS : Hid (∀ o, (w2.alloc o).heap.size = w2.heap.size + 1) := fun o => World.size_alloc _ _
  clear h hb h1 h2 h3
  go_wp2_with fail
  refine (same_bel _ _ [2] _ (HG.out.below (balloc (balloc (Below.refl _ _) _) _)) (lit1 (HS.out _) 2)).mono ?_
  rintro e w5 ⟨rfl, hb5⟩
  have HB5 : Hid (Below w2.heap.size w2 w5) := (balloc (balloc (Below.refl _ w2) _) _).trans (hb5.mono (by simp; omega))
  have HCC : Hid (∀ i v, (repC og 1 cg op cp o0 1 c0 c 2 o1 c1 o2 c2 o3 c3)[i]? = some v → w5.cell? ⟨w2.heap.size, i, none⟩ = some v) := fun i v hv => by
    refine keepCell hb5 ?_
    refine keepCell (balloc (Below.refl _ _) _) ?_
    rw [cell_of_row _ w2.heap.size i _ _ (0, 0) (heap_alloc_new w2 _)]
    exact hv
  have r2 : w5.cell? ⟨w2.heap.size, 2, none⟩ = some (.slice o0 1 c0) := HCC.out 2 _ rfl
  clear hb5 HS
  go_wp2_with fail
  refine (same_bel _ _ [1] _ (HM.out.below (HB5.out.trans ((balloc (Below.refl _ _) _).mono HB5.out.size))) (lit1 rfl 1)).mono ?_
  rintro e w6 ⟨rfl, hb6⟩
  have HB6 : Hid (Below w2.heap.size w2 w6) := HB5.out.trans (((balloc (Below.refl _ _) _).trans (hb6.mono (balloc (Below.refl _ _) _).size)).mono HB5.out.size)
  have r5 : w6.cell? ⟨w2.heap.size, 5, none⟩ = some (.slice o2 2 c2) := by
    refine keepCell hb6 ?_
    refine keepCell (balloc (Below.refl _ _) _) ?_
    exact HCC.out 5 _ rfl
  clear hb6 HB5 HCC r2
  go_wp2_with fail
  refine (same_bel _ _ [1, 1] _ (HW.out.below (HB6.out.trans ((balloc (Below.refl _ _) _).mono HB6.out.size))) (lit2 rfl 1 1)).mono ?_
  rintro e w7 ⟨rfl, hb7⟩
  have HB7 : Hid (Below w.heap.size w w7) := HB.out.trans ((HB6.out.trans (((balloc (Below.refl _ _) _).trans (hb7.mono (balloc (Below.refl _ _) _).size)).mono HB6.out.size)).mono HB.out.size)
  clear hb7 HB6
  go_wp2
  go_ret
  exact ⟨rfl, HB7.out⟩
/-- A callee that draws, met in a region that draws its order. -/
theorem quiet_q {P : Program} {f : FuncId} {args : Array Value} {w : World} {n : Nat} {v : Value}
    (h : Calls P f args (w.drewN n) fun e w' => e = .returned v ∧ ∃ q, w' = (w.drewN n).drewN q) : Calls P f args (w.drewN n) fun e w'' => e = .returned v ∧ ∃ m, w'' = w.drewN m :=
  h.mono fun _ _ ⟨he, q, hq⟩ => ⟨he, n + q, by rw [hq, drewN_drewN]⟩
/-- A row of numbers under way. -/
structure KR (w3 wr : World) (v : Value) (xs : List Int) : Prop where
  bel : Below w3.heap.size w3 wr
  own : Own wr w3.heap.size 3 1 encInt v xs
theorem KR.start (w3 : World) : KR w3 w3 (.slice none 0 0) [] := ⟨Below.refl _ _, Own.nil _ _ _ _ _⟩
theorem KR.below {w3 wr w' : World} {v : Value} {xs : List Int} (h : KR w3 wr v xs) (hb : Below wr.heap.size wr w') : KR w3 w' v xs := ⟨h.bel.trans (hb.mono h.bel.size), h.own.below hb⟩
theorem KR.add {w3 wr w' : World} {v v' : Value} {xs xs' : List Int} (h : KR w3 wr v xs) (hown : Own w' w3.heap.size 3 1 encInt v' xs') (hg : wr.grownBy w' v.ownBlock) : KR w3 w' v' xs' :=
  ⟨h.bel.grown hg h.bel.size fun j hj => (h.own.lt hj).1, hown⟩
theorem used_get (a : Nat → Nat) (n k : Nat) (h : k < (usedTo a n).length) : (usedTo a n)[k] = (a k : Int) := by simp [usedTo]
theorem wst_get (a : Nat → Nat) (G n k : Nat) (h : k < (wstTo a G n).length) : (wstTo a G n)[k] = (a k : Int) - G := by simp [wstTo]
theorem lft_get (fs : List (List Pt)) (a : Nat → Nat) (n k : Nat) (h : k < (lftTo fs a n).length) : (lftTo fs a n)[k] = (ln fs k : Int) - a k := by simp [lftTo]
end Go.Proofs.Ytemldminpndemaa
