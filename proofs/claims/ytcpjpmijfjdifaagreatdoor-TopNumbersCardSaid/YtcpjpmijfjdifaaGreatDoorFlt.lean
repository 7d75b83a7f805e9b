/-
  The walks of the test on earlier faults. Own text.
-/
import Derived.Test.YtcpjpmijfjdifaaGreatDoorChk
namespace Go.Proofs.YtcpjpmijfjdifaaGreatDoor
open Go.RowKit
set_option linter.unusedVariables false
set_option maxRecDepth 100000 in
set_option maxHeartbeats 4000000 in
theorem testF_any (y x : Ft) (ba : Nat) (w : World) (h0 : w.cell? ⟨ba, 0, none⟩ = some (.int .i64 x.cyc)) (h1 : w.cell? ⟨ba, 1, none⟩ = some (.int .i64 x.fdr)) :
    Calls Tryz.prog 18 #[.agg #[.int .i64 y.cyc, .int .i64 y.fdr, .bool y.dbl], .pointer (some ⟨ba, 0, none⟩)] w (fun e w' => e = .returned (.bool (sameF x y)) ∧ Below w.heap.size w w') := by
  have hl := cell?_lt h0
  simp only at hl
  have hb0 := balloc (Below.refl _ w) (.cells #[.int .i64 y.cyc, .int .i64 y.fdr, .bool y.dbl] 55)
  have HB := Lib.hid hb0
  obtain ⟨yc, yf, yd⟩ := y
  obtain ⟨xc, xf, xd⟩ := x
  dsimp only at h0 h1 HB ⊢
  clear hb0
  by_cases hc : yc = xc
  · by_cases hf : yf = xf
    · have hs : sameF ⟨xc, xf, xd⟩ ⟨yc, yf, yd⟩ = true := by simp [sameF, hc, hf]
      rw [hs]
      subst hc hf
      clear hs
      go_enter Tryz.func18, Tryz.ntmps18
      go_wp2
      go_ret
      exact ⟨by first | rfl | simp, HB.out⟩
    · have hs : sameF ⟨xc, xf, xd⟩ ⟨yc, yf, yd⟩ = false := by simp [sameF, hc, hf]
      rw [hs]
      subst hc
      have hbe : (yf == xf) = false := by simpa using hf
      clear hs
      go_enter Tryz.func18, Tryz.ntmps18
      go_wp2
      go_ret
      exact ⟨by first | rfl | simp, HB.out⟩
  · have hs : sameF ⟨xc, xf, xd⟩ ⟨yc, yf, yd⟩ = false := by simp [sameF, hc]
    rw [hs]
    have hbe : (yc == xc) = false := by simpa using hc
    clear hs
    go_enter Tryz.func18, Tryz.ntmps18
    go_wp2
    go_ret
    exact ⟨by first | rfl | simp, HB.out⟩
def RetAny (r : Bool) (w : World) (e : Ending) (w' : World) : Prop := e = .returned (.bool r) ∧ Below w.heap.size w w'
set_option maxRecDepth 100000 in
set_option maxHeartbeats 4000000 in
theorem indexF_any (oj : Option Addr) (xs : List Ft) (cj : Nat) (x : Ft) (ba : Nat) (w : World) (r : Bool) (hr : xs.any (sameF x) = r) (hm : xs.length ≤ 512) (hx : Flat w 3 encFt oj xs) (h0 : w.cell? ⟨ba, 0, none⟩ = some (.int .i64 x.cyc)) (h1 : w.cell? ⟨ba, 1, none⟩ = some (.int .i64 x.fdr)) :
    Calls Tryz.prog 36 #[.slice oj xs.length cj, .func (.func 18) #[] #[.pointer (some ⟨ba, 0, none⟩)]] w (fun e w' => ∃ i : Int, e = .returned (.int .i64 i) ∧ decide (0 ≤ i) = r ∧ Below w.heap.size w w') := by
  have HX := Lib.hid hx
  have HC : Hid (∀ W, Below w.heap.size w W → W.cell? ⟨ba, 0, none⟩ = some (.int .i64 x.cyc) ∧ W.cell? ⟨ba, 1, none⟩ = some (.int .i64 x.fdr)) := fun W hb => ⟨keepCell hb h0, keepCell hb h1⟩
  have HRR := Lib.hid hr
  obtain ⟨n, hn⟩ : ∃ n, n = xs.length := ⟨_, rfl⟩
  have HN := Lib.hid hn
  rw [← hn] at hm
  rw [← hn]
  clear hn hx h0 h1 hr
  go_enter Tryz.func36, Tryz.ntmps36
  go_wp2
  go_loopw [8] (fun i wr => ∃ k : Nat, k ≤ n ∧ i = .int .i64 k ∧ Hid (Below w.heap.size w wr ∧ ∀ j (hj : j < xs.length), j < k → sameF x xs[j] = false)) (fun i _ => n - (intOf i).toNat)
  case atStart => exact ⟨0, by omega, rfl, Below.refl _ _, fun j hj h => by omega⟩
  case round =>
    obtain ⟨k, hk, rfl, HR⟩ := hrel
    by_cases hlt : k < n
    · have hkx : k < xs.length := by have := HN.out; omega
      obtain ⟨bj, offj, rfl, i0, i1, i2⟩ := (HX.out.below HR.out.1).ft hkx
      have kd : (k : Int) < (n : Int) := by omega
      have k0 : (0 : Int) ≤ (k : Int) := by omega
      obtain ⟨y, hy⟩ : ∃ y, y = xs[k] := ⟨_, rfl⟩
      rw [← hy] at i0 i1 i2
      have HYK := Lib.hid hy
      have HT := Lib.hid (testF_any y x ba wr (HC.out wr HR.out.1).1 (HC.out wr HR.out.1).2)
      clear hy
      obtain ⟨bb, hbb⟩ : ∃ bb, bb = sameF x y := ⟨_, rfl⟩
      rw [← hbb] at HT
      have HBB := Lib.hid hbb
      clear hbb
      go_wp2_with fail
      refine HT.out.mono ?_
      rintro e w2 ⟨rfl, hb2⟩
      have HB2 := Lib.hid (HR.out.1.trans (hb2.mono HR.out.1.size))
      clear hb2 HT i0 i1 i2
      cases bb with
      | true =>
        have HF : Hid (∃ i : Int, Ending.returned (.int .i64 (k : Int)) = .returned (.int .i64 i) ∧ decide (0 ≤ i) = r ∧ Below w.heap.size w w2) :=
          ⟨k, rfl, by rw [← HRR.out, List.any_eq_true.2 ⟨xs[k], List.getElem_mem hkx, by rw [← HYK.out]; exact HBB.out.symm⟩]; simp, HB2.out⟩
        clear HR
        go_wp2
        go_ret
        exact HF.out
      | false =>
        have HNX : Hid (Below w.heap.size w w2 ∧ ∀ j (hj : j < xs.length), j < k + 1 → sameF x xs[j] = false) := ⟨HB2.out, fun j hj h => by
          by_cases e : j = k
          · subst e
            rw [← HYK.out]
            exact HBB.out.symm
          · exact HR.out.2 j hj (by omega)⟩
        clear HR HB2
        go_wp2
        go_roundw
        case rel => exact ⟨k + 1, by omega, by go_num, HNX⟩
        case measure => simp [intOf]; omega
    · obtain rfl : n = k := by omega
      have HF : Hid (∃ i : Int, Ending.returned (.int .i64 (-1)) = .returned (.int .i64 i) ∧ decide (0 ≤ i) = r ∧ Below w.heap.size w wr) := by
        refine ⟨-1, rfl, ?_, HR.out.1⟩
        rw [← HRR.out, List.any_eq_false.2 fun y hy => by
          obtain ⟨j, hj, rfl⟩ := List.mem_iff_getElem.1 hy
          rw [HR.out.2 j hj (by have := HN.out; omega)]
          simp]
        rfl
      clear HR
      go_wp2
      go_ret
      exact HF.out
set_option maxRecDepth 100000 in
set_option maxHeartbeats 4000000 in
theorem containsF_any (oj : Option Addr) (xs : List Ft) (cj : Nat) (x : Ft) (ba : Nat) (w : World) (r : Bool) (hr : xs.any (sameF x) = r) (hm : xs.length ≤ 512) (hx : Flat w 3 encFt oj xs) (h0 : w.cell? ⟨ba, 0, none⟩ = some (.int .i64 x.cyc)) (h1 : w.cell? ⟨ba, 1, none⟩ = some (.int .i64 x.fdr)) :
    Calls Tryz.prog 17 #[.slice oj xs.length cj, .func (.func 18) #[] #[.pointer (some ⟨ba, 0, none⟩)]] w (RetAny r w) := by
  have HI := Lib.hid (indexF_any oj xs cj x ba w r hr hm hx h0 h1)
  generalize xs.length = n at *
  clear hx h0 h1 hr
  go_enter Tryz.func17, Tryz.ntmps17
  go_wp2_with fail
  refine HI.out.mono ?_
  rintro e w2 ⟨i, rfl, hx, hb⟩
  have HF : Hid (RetAny r w (.returned (.bool r)) w2) := ⟨rfl, hb⟩
  have hx' : decide (i ≥ 0) = r := hx
  clear hx HI hb
  go_wp2
  go_ret
  exact HF.out
end Go.Proofs.YtcpjpmijfjdifaaGreatDoor
